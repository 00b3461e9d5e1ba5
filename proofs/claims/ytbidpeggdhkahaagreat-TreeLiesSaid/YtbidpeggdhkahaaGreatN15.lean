/-
  N14: the document's own table: fill.
  N15: the document's own table: a round of ranks, plain: what it has found so far. No program in sight.
-/
import Derived.Test.YtbidpeggdhkahaaGreatN13
set_option linter.unusedSimpArgs false
set_option linter.unusedVariables false
namespace Go.Proofs.YtbidpeggdhkahaaGreat
open Go.RowKit

/-- The levels lay before the table's rows. -/
structure LOld (w : World) (t : RT) (Al : Option Addr) (lev : List Int) : Prop where
  out : ∃ wg : World, Below wg.heap.size wg w ∧ Rd.int.C wg Al lev ∧ wg.heap.size ≤ t.nb ∧ wg.heap.size ≤ t.rb
theorem LOld.upd {w w' : World} {t : RT} {Al : Option Addr} {lev : List Int} (h : LOld w t Al lev) (u : Upd (fun b => b = t.nb ∨ b = t.rb) w w') : LOld w' t Al lev := by
  obtain ⟨wg, h1, h2, h3, h4⟩ := h.out
  exact ⟨⟨wg, h1.trans (u.below h1.size (by rintro k (rfl | rfl) <;> assumption)), h2, h3, h4⟩⟩
theorem LOld.one {w : World} {t : RT} {Al : Option Addr} {lev : List Int} (h : LOld w t Al lev) {k : Nat} {v : Int} (hk : lev[k]? = some v) : ∃ ad, Al = some ad ∧ w.cell? (ad.add k) = some (.int .i64 v) := by
  obtain ⟨wg, h1, h2, -, -⟩ := h.out
  obtain ⟨ad, e, hc⟩ := Rd.C.one h2 hk
  exact ⟨ad, e, below_cell h1 hc⟩
/-- A round over the rules of a level, so far. -/
structure FL (G : Gram) (W : ByteArray) (T : Rk × Rk) (lev : List Int) (L : Int) (st0 : Rk × Rk) (i : Nat) (chg : Bool) (st : Rk × Rk) : Prop where
  I : FInv G W T lev L st
  M : Chg G W chg st0 st
  p : chg = false → ∀ r c pos x y (a b : Int), r < i → PlG G r c pos x y → lvG lev x = L → 0 ≤ a → a ≤ b → b ≤ W.size → st0.2 (offG G r c + pos) a b = 0 → restR W st0.1 st0.2 y.seq (offG G r c) pos a b = false
  n : chg = false → ∀ r x (a b : Int), r < i → G.rules[r]? = some x → lvG lev x = L → 0 ≤ a → a ≤ b → b ≤ W.size → st0.1 x.head.toNat a b = 0 → holdsR (offG G r) st0.2 x.conj a b = false
section
variable {G : Gram} {W : ByteArray} {T : Rk × Rk} {lev : List Int} {L : Int} {st0 st : Rk × Rk} {i : Nat} {chg : Bool}
theorem FL.start (I : FInv G W T lev L st0) : FL G W T lev L st0 0 false st0 :=
  ⟨I, .inl ⟨rfl, rfl⟩, fun _ r c pos x y a b h => by omega, fun _ r x a b h => by omega⟩
theorem FL.skip (h : FL G W T lev L st0 i chg st) {x : Rul} (hx : G.rules[i]? = some x) (hl : lvG lev x ≠ L) : FL G W T lev L st0 (i + 1) chg st := by
  refine ⟨h.I, h.M, fun hc r c pos x' y a b hr p hl' => ?_, fun hc r x' a b hr hx' hl' => ?_⟩
  · by_cases e : r = i
    · subst e
      have := p.hx
      rw [hx] at this
      cases this
      exact absurd hl' hl
    · exact h.p hc r c pos x' y a b (by omega) p hl'
  · by_cases e : r = i
    · subst e
      rw [hx] at hx'
      cases hx'
      exact absurd hl' hl
    · exact h.n hc r x' a b (by omega) hx' hl'
theorem FL.pass (h : FL G W T lev L st0 i chg st) {x : Rul} (hx : G.rules[i]? = some x) {st' : Rk × Rk} (hf : FH G W T lev L i x st (W.size + 1) (W.size + 1) false st') : FL G W T lev L st0 (i + 1) chg st' := by
  have e : st' = st := by
    rcases hf.M with ⟨-, e⟩ | ⟨e, -⟩
    · exact e
    · cases e
  subst e
  refine ⟨h.I, h.M, fun hc r c pos x' y a b hr p hl' a0 ab b1 hz => ?_, fun hc r x' a b hr hx' hl' a0 ab b1 hz => ?_⟩
  · by_cases e : r = i
    · subst e
      have e1 := p.hx
      rw [hx] at e1
      cases e1
      have e2 : st' = st0 := by
        rcases h.M with ⟨-, e⟩ | ⟨e, -⟩
        · exact e
        · rw [hc] at e; cases e
      subst e2
      exact hf.lk rfl c pos y a b p a0 ab b1 hz
    · exact h.p hc r c pos x' y a b (by omega) p hl' a0 ab b1 hz
  · by_cases e : r = i
    · subst e
      rw [hx] at hx'
      cases hx'
      have e2 : st' = st0 := by
        rcases h.M with ⟨-, e⟩ | ⟨e, -⟩
        · exact e
        · rw [hc] at e; cases e
      subst e2
      exact hf.ln rfl a b a0 ab b1 (by omega) hz
    · exact h.n hc r x' a b (by omega) hx' hl' a0 ab b1 hz
theorem FL.put (h : FL G W T lev L st0 i chg st) {x : Rul} {st' : Rk × Rk} {a b : Int} (hf : FH G W T lev L i x st a b true st') : FL G W T lev L st0 (i + 1) true st' := by
  refine ⟨hf.I, .inr ⟨rfl, ?_⟩, fun hc => (by cases hc), fun hc => (by cases hc)⟩
  have h1 : zerosG G W st' < zerosG G W st := by
    rcases hf.M with ⟨e, -⟩ | ⟨-, h⟩
    · cases e
    · exact h
  rcases h.M with ⟨-, rfl⟩ | ⟨-, h⟩ <;> omega
theorem FL.done (h : FL G W T lev L st0 i false st) (hi : i = G.rules.length) (H : Truth G W T) (M : MayG G) (hg : ∀ e ∈ edgesOf G, lev.getD e.to 0 + negI e.neg ≤ lev.getD e.fr 0) : FInv G W T lev (L + 1) st := by
  have e : st = st0 := by
    rcases h.M with ⟨-, e⟩ | ⟨e, -⟩
    · exact e
    · cases e
  subst e
  refine still_done h.I H M hg ⟨fun r c pos x y a b p => h.p rfl r c pos x y a b (by rw [hi]; exact (List.getElem?_eq_some_iff.1 p.hx).1) p, fun r x a b hx => h.n rfl r x a b (by rw [hi]; exact (List.getElem?_eq_some_iff.1 hx).1) hx⟩
end
section
variable (w : World) (t : RT) (T : Rk × Rk) (lev : List Int) (L : Int)
def FillG (g : Nat) (ch : Value) (wr : World) : Prop := ∃ (more : Bool) (st : Rk × Rk), ch = .bool more ∧ FWd w t wr st ∧ ((more = true ∧ g = zerosG t.G t.W st + 1 ∧ FInv t.G t.W T lev L st) ∨ (more = false ∧ FInv t.G t.W T lev (L + 1) st))
def FillR (st0 : Rk × Rk) (cnt ch : Value) (wr : World) : Prop := ∃ (i : Nat) (chg : Bool) (st : Rk × Rk), cnt = .int .i64 i ∧ ch = .bool chg ∧ i ≤ t.G.rules.length ∧ FL t.G t.W T lev L st0 i chg st ∧ FWd w t wr st
/-- What fill leaves. -/
def FilledPost (e : Ending) (w' : World) : Prop := e = .returned (.tuple #[]) ∧ ∃ st : Rk × Rk, FInv t.G t.W T lev (L + 1) st ∧ FWd w t w' st
end

set_option maxRecDepth 100000 in
set_option maxHeartbeats 8000000 in
theorem rfill_any {w : World} {t : RT} (A : RStat w t) (O : ROld w t) (F : t.Fits) {T : Rk × Rk} {lev : List Int} {Al : Option Addr} {cl : Nat} (OL : LOld w t Al lev) (hll : lev.length = t.G.names.length) {L : Int} {st0 : Rk × Rk} (RN : FlatAt w t t.nb t.G.names.length st0.1) (RP : FlatAt w t t.rb (qG t.G) st0.2) (H : Truth t.G t.W T) (hg : ∀ e ∈ edgesOf t.G, lev.getD e.to 0 + negI e.neg ≤ lev.getD e.fr 0) (I : FInv t.G t.W T lev L st0) :
    Calls Tryz.prog 28 #[.pointer (some ⟨t.p, 0, none⟩), .slice Al lev.length cl, .int .i64 L] w (FilledPost w t T lev L) := by
  have hRL := F.may.rules
  have HO := Lib.hid O
  have HOL := Lib.hid OL
  have HI := Lib.hid I
  have HLEN := Lib.hid hll
  have HW0 := Lib.hid (show FWd w t w st0 from ⟨A, RN, RP, Upd.refl _ _⟩)
  clear A O OL RN RP I hll
  go_enter Tryz.func28, Tryz.ntmps28
  go_wp2_with fail
  go_loopg [6] (zerosG t.G t.W st0 + 1) (fun g ch wr => FillG w t T lev L g ch wr)
  case atStart => exact ⟨true, st0, rfl, HW0.out, .inl ⟨rfl, rfl, HI.out⟩⟩
  case round =>
    clear HI HW0
    obtain ⟨more, st, rfl, hw, ⟨rfl, rfl, hi⟩ | ⟨rfl, hi⟩⟩ := hrel
    · have HWd := Lib.hid hw
      have HI := Lib.hid hi
      clear hw hi
      go_wp2_with fail
      go_loopw [7, 6] (fun cnt ch wi => FillR w t T lev L st cnt ch wi) (fun cnt _ _ => t.G.rules.length - (intOf cnt).toNat)
      case atStart => exact ⟨0, false, st, rfl, rfl, Nat.zero_le _, FL.start HI.out, HWd.out⟩
      case round =>
        clear HI HWd
        obtain ⟨i, chg, st1, rfl, rfl, hi, hfl, hw⟩ := hrel
        have HF := Lib.hid hfl
        have HWd := Lib.hid hw
        clear hfl hw
        have c2 := HWd.out.S.now.c2
        by_cases hlt : i < t.G.rules.length
        · obtain ⟨x, hx⟩ : ∃ x, t.G.rules[i]? = some x := ⟨_, List.getElem?_eq_getElem hlt⟩
          obtain ⟨rd, Ac, cc, eA, r0, -, -⟩ := (HO.out.upd HWd.out.U).rule hx
          rw [eA] at c2
          have b1 : (i : Int) < t.G.rules.length := by omega
          have hhd := F.may.head i x hx
          obtain ⟨h, hh⟩ : ∃ h : Nat, x.head = (h : Int) := ⟨x.head.toNat, by omega⟩
          have hhl : h < lev.length := by have := HLEN.out; omega
          obtain ⟨ld, eL, l0⟩ := (HOL.out.upd HWd.out.U).one (List.getElem?_eq_getElem hhl)
          have hlv : lvG lev x = lev[h] := by unfold lvG; rw [show x.head.toNat = h by omega]; simp [List.getD, List.getElem?_eq_getElem hhl]
          obtain ⟨v, hv⟩ : ∃ v, v = lev[h] := ⟨_, rfl⟩
          rw [← hv] at l0 hlv
          have b2 : (h : Int) < lev.length := by omega
          rw [hh] at r0
          have HXX := Lib.hid hx
          have HLV := Lib.hid hlv
          subst eL
          clear hx eA hh hhd hlv hv
          by_cases hvl : v = L
          · have d1 : (v != L) = false := by simp [hvl]
            have HLL := Lib.hid (HLV.out.trans hvl)
            clear hvl
            have HC := Lib.hid (rfill_rule HWd.out.S (HO.out.upd HWd.out.U) F HWd.out.N HWd.out.P H hg HXX.out HLL.out HF.out.I)
            go_wp2_with (first | (go_at_call 43; refine HC.out.mono ?_; rintro e w2 ⟨chg2, st2, rfl, hfh, hw2⟩; have HFH := Lib.hid hfh; have HW2 := Lib.hid hw2; clear hfh hw2) | fail)
            all_goals
              rename_i hch
              subst hch
              go_roundw
              case rel => first | exact ⟨i + 1, true, st2, by go_num, rfl, by omega, HF.out.put HFH.out, ⟨HW2.out.S, HW2.out.N, HW2.out.P, HWd.out.U.trans HW2.out.U⟩⟩ | exact ⟨i + 1, chg, st2, by go_num, rfl, by omega, HF.out.pass HXX.out HFH.out, ⟨HW2.out.S, HW2.out.N, HW2.out.P, HWd.out.U.trans HW2.out.U⟩⟩
              case measure => simp [intOf]; omega
          · have d1 : (v != L) = true := by simp [hvl]
            have HLL := Lib.hid (show lvG lev x ≠ L by rw [HLV.out]; exact hvl)
            clear hvl
            go_wp2_with fail
            go_roundw
            case rel => exact ⟨i + 1, chg, st1, by go_num, rfl, by omega, HF.out.skip HXX.out HLL.out, HWd.out⟩
            case measure => simp [intOf]; omega
        · have hie : i = t.G.rules.length := by omega
          have HIE := Lib.hid hie
          have HML := Lib.hid (show chg = true → zerosG t.G t.W st1 < zerosG t.G t.W st from fun hc => by
            rcases HF.out.M with ⟨e, -⟩ | ⟨-, h⟩
            · rw [hc] at e; cases e
            · exact h)
          have b1 : ¬ ((i : Int) < t.G.rules.length) := by omega
          clear hie hlt
          go_wp2_with fail
          cases chg with
          | true =>
            go_roundg (zerosG t.G t.W st1 + 1)
            case rel => exact ⟨true, st1, rfl, HWd.out, .inl ⟨rfl, rfl, HF.out.I⟩⟩
            case measure => have := HML.out rfl; omega
          | false =>
            go_roundg 0
            case rel => exact ⟨false, st1, rfl, HWd.out, .inr ⟨rfl, HF.out.done HIE.out H F.may hg⟩⟩
            case measure => omega
    · have HWd := Lib.hid hw
      have HI := Lib.hid hi
      clear hw hi
      go_wp2_with fail
      go_end0
      exact ⟨rfl, st, HI.out, HWd.out⟩
end Go.Proofs.YtbidpeggdhkahaaGreat

set_option linter.unusedSimpArgs false
set_option linter.unusedVariables false
namespace Go.Proofs.YtbidpeggdhkahaaGreat
open Go.RowKit

/-- Has a name got its rank by a rule now? -/
def cN (G : Gram) (M st : Rk × Rk) (r : Nat) (x : Rul) (i j : Int) : Bool := decide (0 < M.1 x.head.toNat i j) && ((st.1 x.head.toNat i j == 0) && (holdsR (offG G r) M.2 x.conj i j && rankedR (offG G r) st.2 x.conj i j))
def cP (G : Gram) (W : ByteArray) (M st : Rk × Rk) (r c k : Nat) (y : Conj) (i j : Int) : Bool := decide (0 < M.2 (offG G r c + k) i j) && ((st.2 (offG G r c + k) i j == 0) && restR W st.1 st.2 y.seq (offG G r c) k i j)
/-- What was found among names. -/
structure NFd (t : RT) (T M st : Rk × Rk) (R : Int) (r0 : Nat) (a b : Int) (xs : List Int) : Prop where
  s : ∀ v ∈ xs, ∃ (h : Nat) (i j : Int), h < t.G.names.length ∧ 0 ≤ i ∧ i ≤ j ∧ j ≤ t.W.size ∧ v = (t.ix h i j : Int) ∧ T.1 h i j = R
  f : ∀ (r : Nat) (x : Rul) (i j : Int), t.G.rules[r]? = some x → 0 ≤ i → i ≤ j → j ≤ t.W.size → (r < r0 ∨ (r = r0 ∧ (i < a ∨ (i = a ∧ j < b)))) → cN t.G M st r x i j = true → (t.ix x.head.toNat i j : Int) ∈ xs
  len : (xs.length : Int) ≤ r0 * 1089 + a * 33 + (b - a)
structure PFd (t : RT) (T M st : Rk × Rk) (R : Int) (r0 c0 k0 : Nat) (a b : Int) (ys : List Int) : Prop where
  s : ∀ v ∈ ys, ∃ (r c k : Nat) (x : Rul) (y : Conj) (i j : Int), PlG t.G r c k x y ∧ 0 ≤ i ∧ i ≤ j ∧ j ≤ t.W.size ∧ v = (t.ix (offG t.G r c + k) i j : Int) ∧ T.2 (offG t.G r c + k) i j = R
  f : ∀ (r c k : Nat) (x : Rul) (y : Conj) (i j : Int), PlG t.G r c k x y → 0 ≤ i → i ≤ j → j ≤ t.W.size → (r < r0 ∨ (r = r0 ∧ (c < c0 ∨ (c = c0 ∧ (k < k0 ∨ (k = k0 ∧ (i < a ∨ (i = a ∧ j < b)))))))) → cP t.G t.W M st r c k y i j = true → (t.ix (offG t.G r c + k) i j : Int) ∈ ys
  len : (ys.length : Int) ≤ r0 * 600000 + c0 * 75000 + k0 * 1089 + a * 33 + (b - a)
section
variable {t : RT} {T M st : Rk × Rk} {R : Int} {r0 c0 k0 : Nat} {a b : Int} {xs ys : List Int}
theorem NFd.start : NFd t T M st R 0 0 0 [] := ⟨fun v h => (by cases h), fun r x i j hx i0 ij j1 h => by omega, by simp⟩
theorem PFd.start : PFd t T M st R 0 0 0 0 0 [] := ⟨fun v h => (by cases h), fun r c k x y i j p i0 ij j1 h => by omega, by simp⟩
theorem NFd.pass (h : NFd t T M st R r0 a b xs) {x : Rul} (hx : t.G.rules[r0]? = some x) (hc : cN t.G M st r0 x a b = false) : NFd t T M st R r0 a (b + 1) xs := by
  refine ⟨h.s, fun r x' i j hx' i0 ij j1 hB hcc => ?_, by have := h.len; omega⟩
  by_cases e : r = r0 ∧ i = a ∧ j = b
  · obtain ⟨rfl, rfl, rfl⟩ := e
    rw [hx] at hx'
    cases hx'
    rw [hc] at hcc
    cases hcc
  · exact h.f r x' i j hx' i0 ij j1 (by omega) hcc
theorem NFd.put (h : NFd t T M st R r0 a b xs) (H : Truth t.G t.W T) (MM : Mem t.G t.W T M) (I : RInv t.G t.W T R st) (hR : 1 ≤ R) {x : Rul} (hx : t.G.rules[r0]? = some x) (hk : x.head.toNat < t.G.names.length) (a0 : 0 ≤ a) (ab : a ≤ b) (b1 : b ≤ t.W.size) (hc : cN t.G M st r0 x a b = true) : NFd t T M st R r0 a (b + 1) (xs ++ [(t.ix x.head.toNat a b : Int)]) := by
  refine ⟨fun v hv => ?_, fun r x' i j hx' i0 ij j1 hB hcc => ?_, by have := h.len; simp; omega⟩
  · rcases List.mem_append.1 hv with hv | hv
    · exact h.s v hv
    · rw [List.mem_singleton.1 hv]
      unfold cN at hc
      simp only [Bool.and_eq_true, decide_eq_true_eq, beq_iff_eq] at hc
      exact ⟨_, a, b, hk, a0, ab, b1, rfl, round_name_sound H MM I hR hx hk a0 ab b1 hc.1 hc.2.1 hc.2.2.1 hc.2.2.2⟩
  · rw [List.mem_append]
    by_cases e : r = r0 ∧ i = a ∧ j = b
    · obtain ⟨rfl, rfl, rfl⟩ := e
      rw [hx] at hx'
      cases hx'
      exact .inr (List.mem_singleton.2 rfl)
    · exact .inl (h.f r x' i j hx' i0 ij j1 (by omega) hcc)
theorem NFd.nextA (h : NFd t T M st R r0 a b xs) (hW : t.W.size ≤ 32) (a0 : 0 ≤ a) (hb : b = t.W.size + 1) : NFd t T M st R r0 (a + 1) (a + 1) xs :=
  ⟨h.s, fun r x i j hx i0 ij j1 hB => h.f r x i j hx i0 ij j1 (by omega), by have := h.len; omega⟩
theorem NFd.nextR (h : NFd t T M st R r0 a b xs) (hW : t.W.size ≤ 32) (ha : a = t.W.size + 1) (hb : b = a) : NFd t T M st R (r0 + 1) 0 0 xs :=
  ⟨h.s, fun r x i j hx i0 ij j1 hB => h.f r x i j hx i0 ij j1 (by omega), by have := h.len; push_cast; omega⟩
theorem PFd.pass (h : PFd t T M st R r0 c0 k0 a b ys) {x : Rul} {y : Conj} (p : PlG t.G r0 c0 k0 x y) (hc : cP t.G t.W M st r0 c0 k0 y a b = false) : PFd t T M st R r0 c0 k0 a (b + 1) ys := by
  refine ⟨h.s, fun r c k x' y' i j p' i0 ij j1 hB hcc => ?_, by have := h.len; omega⟩
  by_cases e : r = r0 ∧ c = c0 ∧ k = k0 ∧ i = a ∧ j = b
  · obtain ⟨rfl, rfl, rfl, rfl, rfl⟩ := e
    have e1 := p.hx
    rw [p'.hx] at e1
    cases e1
    have e2 := p.hy
    rw [p'.hy] at e2
    cases e2
    rw [hc] at hcc
    cases hcc
  · exact h.f r c k x' y' i j p' i0 ij j1 (by omega) hcc
theorem PFd.put (h : PFd t T M st R r0 c0 k0 a b ys) (H : Truth t.G t.W T) (M0 : MayG t.G) (MM : Mem t.G t.W T M) (I : RInv t.G t.W T R st) (hR : 1 ≤ R) {x : Rul} {y : Conj} (p : PlG t.G r0 c0 k0 x y) (a0 : 0 ≤ a) (ab : a ≤ b) (b1 : b ≤ t.W.size) (hc : cP t.G t.W M st r0 c0 k0 y a b = true) : PFd t T M st R r0 c0 k0 a (b + 1) (ys ++ [(t.ix (offG t.G r0 c0 + k0) a b : Int)]) := by
  refine ⟨fun v hv => ?_, fun r c k x' y' i j p' i0 ij j1 hB hcc => ?_, by have := h.len; simp; omega⟩
  · rcases List.mem_append.1 hv with hv | hv
    · exact h.s v hv
    · rw [List.mem_singleton.1 hv]
      unfold cP at hc
      simp only [Bool.and_eq_true, decide_eq_true_eq, beq_iff_eq] at hc
      exact ⟨r0, c0, k0, x, y, a, b, p, a0, ab, b1, rfl, (round_rest H M0 MM I hR p a0 ab b1).1 hc⟩
  · rw [List.mem_append]
    by_cases e : r = r0 ∧ c = c0 ∧ k = k0 ∧ i = a ∧ j = b
    · obtain ⟨rfl, rfl, rfl, rfl, rfl⟩ := e
      exact .inr (List.mem_singleton.2 rfl)
    · exact .inl (h.f r c k x' y' i j p' i0 ij j1 (by omega) hcc)
theorem PFd.nextA (h : PFd t T M st R r0 c0 k0 a b ys) (hW : t.W.size ≤ 32) (a0 : 0 ≤ a) (hb : b = t.W.size + 1) : PFd t T M st R r0 c0 k0 (a + 1) (a + 1) ys :=
  ⟨h.s, fun r c k x y i j p i0 ij j1 hB => h.f r c k x y i j p i0 ij j1 (by omega), by have := h.len; omega⟩
theorem PFd.nextK (h : PFd t T M st R r0 c0 k0 a b ys) (hW : t.W.size ≤ 32) (ha : a = t.W.size + 1) (hb : b = a) : PFd t T M st R r0 c0 (k0 + 1) 0 0 ys :=
  ⟨h.s, fun r c k x y i j p i0 ij j1 hB => h.f r c k x y i j p i0 ij j1 (by omega), by have := h.len; push_cast; omega⟩
theorem PFd.nextC (h : PFd t T M st R r0 c0 k0 a b ys) (M0 : MayG t.G) {x : Rul} {y : Conj} (hx : t.G.rules[r0]? = some x) (hy : x.conj[c0]? = some y) (hk : k0 = y.seq.length + 1) (ha : a = 0) (hb : b = 0) : PFd t T M st R r0 (c0 + 1) 0 0 0 ys := by
  have hs := M0.seq r0 x c0 y hx hy
  refine ⟨h.s, fun r c k x' y' i j p i0 ij j1 hB => h.f r c k x' y' i j p i0 ij j1 ?_, by have := h.len; push_cast; omega⟩
  by_cases e : r = r0 ∧ c = c0
  · obtain ⟨rfl, rfl⟩ := e
    have e1 := p.hx
    rw [hx] at e1
    cases e1
    have e2 := p.hy
    rw [hy] at e2
    cases e2
    have := p.hp
    omega
  · omega
theorem PFd.nextR (h : PFd t T M st R r0 c0 k0 a b ys) (M0 : MayG t.G) {x : Rul} (hx : t.G.rules[r0]? = some x) (hc : c0 = x.conj.length) (hk : k0 = 0) (ha : a = 0) (hb : b = 0) : PFd t T M st R (r0 + 1) 0 0 0 0 ys := by
  have hs := (M0.conj r0 x hx).2
  refine ⟨h.s, fun r c k x' y' i j p i0 ij j1 hB => h.f r c k x' y' i j p i0 ij j1 ?_, by have := h.len; push_cast; omega⟩
  by_cases e : r = r0
  · subst e
    have e1 := p.hx
    rw [hx] at e1
    cases e1
    have := (List.getElem?_eq_some_iff.1 p.hy).1
    omega
  · omega
/-- All that a round finds. -/
structure RFd (t : RT) (T : Rk × Rk) (R : Int) (xs ys : List Int) : Prop where
  n : ∀ (h : Nat) (i j : Int), h < t.G.names.length → 0 ≤ i → i ≤ j → j ≤ t.W.size → ((t.ix h i j : Int) ∈ xs ↔ T.1 h i j = R)
  ns : ∀ v ∈ xs, ∃ (h : Nat) (i j : Int), h < t.G.names.length ∧ 0 ≤ i ∧ i ≤ j ∧ j ≤ t.W.size ∧ v = (t.ix h i j : Int)
  p : ∀ (r c k : Nat) (x : Rul) (y : Conj) (i j : Int), PlG t.G r c k x y → 0 ≤ i → i ≤ j → j ≤ t.W.size → ((t.ix (offG t.G r c + k) i j : Int) ∈ ys ↔ T.2 (offG t.G r c + k) i j = R)
  ps : ∀ v ∈ ys, ∃ (r c k : Nat) (x : Rul) (y : Conj) (i j : Int), PlG t.G r c k x y ∧ 0 ≤ i ∧ i ≤ j ∧ j ≤ t.W.size ∧ v = (t.ix (offG t.G r c + k) i j : Int)
  len : xs.length ≤ 1000000 ∧ ys.length ≤ 200000000
theorem RFd.of (hn : NFd t T M st R t.G.rules.length 0 0 xs) (hp : PFd t T M st R t.G.rules.length 0 0 0 0 ys) (H : Truth t.G t.W T) (M0 : MayG t.G) (MM : Mem t.G t.W T M) (I : RInv t.G t.W T R st) (hR : 1 ≤ R) : RFd t T R xs ys := by
  refine ⟨fun h i j hk i0 ij j1 => ⟨fun hm => ?_, fun hT => ?_⟩, fun v hv => ?_, fun r c k x y i j p i0 ij j1 => ⟨fun hm => ?_, fun hT => ?_⟩, fun v hv => ?_, ?_⟩
  · obtain ⟨h', i', j', a1, a2, a3, a4, a5, a6⟩ := hn.s _ hm
    obtain ⟨rfl, rfl, rfl⟩ := ix_inj (t := t) i0 (by omega) (by omega) j1 a2 (by omega) (by omega) a4 (by omega : t.ix h i j = t.ix h' i' j')
    exact a6
  · obtain ⟨b1, b2, r, x, hx, hh, b3, b4⟩ := round_name_find H MM I hR hk i0 ij j1 hT
    subst hh
    exact hn.f r x i j hx i0 ij j1 (.inl (List.getElem?_eq_some_iff.1 hx).1) (by unfold cN; rw [decide_eq_true b1, b2, b3, b4]; rfl)
  · obtain ⟨h', i', j', a1, a2, a3, a4, a5, a6⟩ := hn.s _ hv
    exact ⟨h', i', j', a1, a2, a3, a4, a5⟩
  · obtain ⟨r', c', k', x', y', i', j', p', a2, a3, a4, a5, a6⟩ := hp.s _ hm
    obtain ⟨e1, rfl, rfl⟩ := ix_inj (t := t) i0 (by omega) (by omega) j1 a2 (by omega) (by omega) a4 (by omega : t.ix (offG t.G r c + k) i j = t.ix (offG t.G r' c' + k') i' j')
    rw [e1]
    exact a6
  · exact hp.f r c k x y i j p i0 ij j1 (.inl (List.getElem?_eq_some_iff.1 p.hx).1) (by have := (round_rest H M0 MM I hR p i0 ij j1).2 hT; unfold cP; rw [decide_eq_true this.1, this.2.1, this.2.2]; rfl)
  · obtain ⟨r', c', k', x', y', i', j', p', a2, a3, a4, a5, a6⟩ := hp.s _ hv
    exact ⟨r', c', k', x', y', i', j', p', a2, a3, a4, a5⟩
  · have h1 := hn.len
    have h2 := hp.len
    have h3 := M0.rules
    constructor <;> omega
end
/-- A row with new ranks written in. -/
def markR (t : RT) (f : Rk) (xs : List Int) (R : Int) : Rk := fun q i j => if (t.ix q i j : Int) ∈ xs then R else f q i j
theorem FlatAt.congr {w : World} {t : RT} {b N : Nat} {f g : Rk} (h : FlatAt w t b N f) (e : ∀ (q : Nat) (i j : Int), q < N → 0 ≤ i → i ≤ t.W.size → 0 ≤ j → j ≤ t.W.size → f q i j = g q i j) : FlatAt w t b N g := fun q i j a1 a2 a3 a4 a5 => by
  rw [← e q i j a1 a2 a3 a4 a5]
  exact h q i j a1 a2 a3 a4 a5
theorem FlatAt.mark {w : World} {t : RT} {b N : Nat} {f : Rk} {xs : List Int} {R : Int} (h : FlatAt w t b N (markR t f xs R)) {q : Nat} {i j : Int} (hq : q < N) (i0 : 0 ≤ i) (i1 : i ≤ t.W.size) (j0 : 0 ≤ j) (j1 : j ≤ t.W.size) : FlatAt (w.setCell ⟨b, t.ix q i j, none⟩ (.int .i64 R)) t b N (markR t f (xs ++ [(t.ix q i j : Int)]) R) := by
  refine (h.put hq i0 i1 j0 j1 R).congr fun q' i' j' a1 a2 a3 a4 a5 => ?_
  unfold putR markR
  by_cases e : q' = q ∧ i' = i ∧ j' = j
  · obtain ⟨rfl, rfl, rfl⟩ := e
    simp
  · rw [if_neg e]
    have hne : ¬ (t.ix q' i' j' : Int) = (t.ix q i j : Int) := fun h => e (ix_inj (t := t) a2 a3 a4 a5 i0 i1 j0 j1 (by omega))
    simp [hne]
theorem rinv_next {t : RT} {T st : Rk × Rk} {R : Int} {xs ys : List Int} (H : Truth t.G t.W T) (I : RInv t.G t.W T R st) (hR : 1 ≤ R) (h : RFd t T R xs ys) : RInv t.G t.W T (R + 1) (markR t st.1 xs R, markR t st.2 ys R) := by
  refine ⟨fun k i j hk i0 ij j1 => ?_, fun r c pos x y i j p i0 ij j1 => ?_⟩
  · have h1 := h.n k i j hk i0 ij j1
    have h2 := I.n k i j hk i0 ij j1
    have h3 := H.low1 k i j
    simp only [markR]
    by_cases e : T.1 k i j = R
    · rw [if_pos (h1.2 e)]; unfold rk; rw [if_pos (by omega)]; exact e.symm
    · rw [if_neg (fun hm => e (h1.1 hm)), h2]; unfold rk; split <;> split <;> omega
  · have h1 := h.p r c pos x y i j p i0 ij j1
    have h2 := I.p r c pos x y i j p i0 ij j1
    have h3 := H.low2 r c pos i j
    simp only [markR]
    by_cases e : T.2 (offG t.G r c + pos) i j = R
    · rw [if_pos (h1.2 e)]; unfold rk; rw [if_pos (by omega)]; exact e.symm
    · rw [if_neg (fun hm => e (h1.1 hm)), h2]; unfold rk; split <;> split <;> omega
end Go.Proofs.YtbidpeggdhkahaaGreat
