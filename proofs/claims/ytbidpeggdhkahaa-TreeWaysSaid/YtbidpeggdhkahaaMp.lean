/-
  M0: a table of ranks as it lies in memory; what the code does to it, as functions. No program in sight.
  Mp: what the table's reckoning is, as plain functions and relations (passes, rounds, levels, spans; places' numbers). No program in sight.
-/
import Derived.Test.YtbidpeggdhkahaaA1
set_option linter.unusedSimpArgs false
set_option linter.unusedVariables false
namespace Go.Proofs.Ytbidpeggdhkahaa
open Go.RowKit

/-- What the loop of 'rest' does of one split. -/
def bestStep (best a b : Int) : Int := if 0 < a ∧ 0 < b ∧ (best = 0 ∨ wrap64 (1 + mxz a b) < best) then wrap64 (1 + mxz a b) else best
def bestTo (f g : Nat → Int) : Nat → Int
  | 0 => 0
  | n + 1 => bestStep (bestTo f g n) (f n) (g n)
theorem bestStep_no {B a b : Int} (h : ¬ 0 < a) : bestStep B a b = B := by unfold bestStep; rw [if_neg (by omega)]
theorem bestStep_no2 {B a b : Int} (h : ¬ 0 < b) : bestStep B a b = B := by unfold bestStep; rw [if_neg (by omega)]
theorem bestStep_first {a b : Int} (h1 : 0 < a) (h2 : 0 < b) : bestStep 0 a b = wrap64 (1 + mxz a b) := by unfold bestStep; rw [if_pos ⟨h1, h2, .inl rfl⟩]
theorem bestStep_lt {B a b : Int} (h1 : 0 < a) (h2 : 0 < b) (h3 : wrap64 (1 + mxz a b) < B) : bestStep B a b = wrap64 (1 + mxz a b) := by unfold bestStep; rw [if_pos ⟨h1, h2, .inr h3⟩]
theorem bestStep_ge {B a b : Int} (h0 : ¬ B = 0) (h3 : ¬ wrap64 (1 + mxz a b) < B) : bestStep B a b = B := by unfold bestStep; rw [if_neg]; rintro ⟨_, _, h | h⟩ <;> contradiction

/-- 'less': does a rank go in? -/
def lessB (old rank : Int) : Bool := !(rank == 0 || (decide (0 < old) && decide (old ≤ rank)))
def setIf (b : Bool) (w : World) (a : Addr) (v : Value) : World := if b then w.setCell a v else w

/-- Ranks: of a number, a span. -/
abbrev Rk := Nat → Int → Int → Int
def putR (f : Rk) (q : Nat) (i j v : Int) : Rk := fun q' i' j' => if q' = q ∧ i' = i ∧ j' = j then v else f q' i' j'

/-- What does not turn of a table. -/
structure TS where
  p : Nat
  W : ByteArray
  G : Gram
  lev : List Int
  ra : Option Addr
  ca : Nat → Option Addr
  sa : Nat → Nat → Option Addr
  nb : Nat
  pb : Nat
  ab : Nat
  nr : Nat → Nat
  pr : Nat → Nat
  ar : Nat → Nat
  off : Nat → Nat → Nat
  Q : Nat
  la : Option Addr
  xL : Nat
  xN : Nat
  xP : Nat
  xA : Nat
  yN : Nat → Nat
  yP : Nat → Nat
  yA : Nat → Nat
def TS.K (t : TS) : Nat := t.G.names.length
def TS.S (t : TS) : Nat := (t.W.size + 1) * (t.W.size + 1)
def TS.R (t : TS) (b : Nat) : Prop := (∃ h, h < t.K ∧ b = t.nr h) ∨ (∃ q, q < t.Q ∧ b = t.pr q)
/-- Where a span lies in a row. -/
def TS.key (t : TS) (i j : Int) : Int := i * (t.W.size + 1) + j

/-- Its sizes, and that its rows lie apart. -/
structure TS.Fits (t : TS) : Prop where
  W32 : t.W.size ≤ 32
  K64 : t.K ≤ 64
  rules : t.G.rules.length ≤ 256
  conj : ∀ (r : Nat) (x : Rul), t.G.rules[r]? = some x → 1 ≤ x.conj.length ∧ x.conj.length ≤ 8
  seq : ∀ (r : Nat) (x : Rul) (c : Nat) (y : Conj), t.G.rules[r]? = some x → x.conj[c]? = some y → y.seq.length ≤ 64
  sym : ∀ (r : Nat) (x : Rul) (c : Nat) (y : Conj) (k : Nat) (s : Sym), t.G.rules[r]? = some x → x.conj[c]? = some y → y.seq[k]? = some s → s.name < t.K
  head : ∀ (r : Nat) (x : Rul), t.G.rules[r]? = some x → 0 ≤ x.head ∧ x.head < t.K
  lev : t.lev.length = t.K
  off : ∀ (r : Nat) (x : Rul) (c : Nat) (y : Conj), t.G.rules[r]? = some x → x.conj[c]? = some y → t.off r c + y.seq.length < t.Q
  Q : t.Q ≤ 100000
  injN : ∀ h h', h < t.K → h' < t.K → t.nr h = t.nr h' → h = h'
  injP : ∀ q q', q < t.Q → q' < t.Q → t.pr q = t.pr q' → q = q'
  apart : ∀ h q, h < t.K → q < t.Q → t.nr h ≠ t.pr q

/-- What lies still. -/
structure Static (w : World) (t : TS) : Prop where
  cW : w.cell? ⟨t.p, 3, none⟩ = some (.string t.W)
  cG : ∃ A c, w.cell? ⟨t.p, 1, none⟩ = some (.slice A t.K c)
  cR : ∃ c, w.cell? ⟨t.p, 2, none⟩ = some (.slice t.ra t.G.rules.length c)
  gR : RulesAt w t.ra t.ca t.sa t.G.rules
  cL : w.cell? ⟨t.p, 4, none⟩ = some (.slice t.la t.lev.length t.xL)
  gL : Rd.int.C w t.la t.lev
  cN : w.cell? ⟨t.p, 5, none⟩ = some (.slice (some ⟨t.nb, 0, none⟩) t.K t.xN)
  rN : ∀ h, h < t.K → w.cell? ⟨t.nb, h, none⟩ = some (.slice (some ⟨t.nr h, 0, none⟩) t.S (t.yN h))
  cP : w.cell? ⟨t.p, 6, none⟩ = some (.slice (some ⟨t.pb, 0, none⟩) t.Q t.xP)
  rP : ∀ q, q < t.Q → w.cell? ⟨t.pb, q, none⟩ = some (.slice (some ⟨t.pr q, 0, none⟩) t.S (t.yP q))
  cA : w.cell? ⟨t.p, 7, none⟩ = some (.slice (some ⟨t.ab, 0, none⟩) t.G.rules.length t.xA)
  rA : ∀ (r : Nat) (x : Rul), t.G.rules[r]? = some x → w.cell? ⟨t.ab, r, none⟩ = some (.slice (some ⟨t.ar r, 0, none⟩) x.conj.length (t.yA r))
  oA : ∀ (r : Nat) (x : Rul) (c : Nat) (y : Conj), t.G.rules[r]? = some x → x.conj[c]? = some y → w.cell? ⟨t.ar r, c, none⟩ = some (.int .i64 (t.off r c))

/-- It lies still whatever is written into the rows. -/
def Stat (w : World) (t : TS) : Prop := ∀ w', Upd t.R w w' → Static w' t
theorem Stat.now {w : World} {t : TS} (h : Stat w t) : Static w t := h w (Upd.refl _ _)
theorem Stat.upd {w w' : World} {t : TS} (h : Stat w t) (u : Upd t.R w w') : Stat w' t := fun _ u' => h _ (u.trans u')

theorem Stat.below {w w' : World} {t : TS} (h : Stat w t) (u : Below w.heap.size w w') : Stat w' t := h.upd (Upd.of_below u)
theorem Stat.drew {w : World} {t : TS} (h : Stat w t) : Stat w.drew t := h.upd (Upd.refl _ _).drew
theorem below_drew (w : World) : Below w.heap.size w w.drew := (Below.refl _ _).drew

/-- The rows' ranks. -/
structure Rows (w : World) (t : TS) (NM PL : Rk) : Prop where
  n : ∀ (h : Nat) (i j : Int), h < t.K → 0 ≤ i → i ≤ t.W.size → 0 ≤ j → j ≤ t.W.size → w.cell? ⟨t.nr h, (t.key i j).toNat, none⟩ = some (.int .i64 (NM h i j)) ∧ w.frozen? ⟨t.nr h, (t.key i j).toNat, none⟩ = false
  p : ∀ (q : Nat) (i j : Int), q < t.Q → 0 ≤ i → i ≤ t.W.size → 0 ≤ j → j ≤ t.W.size → w.cell? ⟨t.pr q, (t.key i j).toNat, none⟩ = some (.int .i64 (PL q i j)) ∧ w.frozen? ⟨t.pr q, (t.key i j).toNat, none⟩ = false
theorem Rows.below {w w' : World} {t : TS} {NM PL : Rk} (h : Rows w t NM PL) (hb : Below w.heap.size w w') : Rows w' t NM PL :=
  ⟨fun k i j a b c d e => let ⟨x, y⟩ := h.n k i j a b c d e; ⟨below_cell hb x, below_froz hb x y⟩, fun k i j a b c d e => let ⟨x, y⟩ := h.p k i j a b c d e; ⟨below_cell hb x, below_froz hb x y⟩⟩

theorem Rows.drew {w : World} {t : TS} {NM PL : Rk} (h : Rows w t NM PL) : Rows w.drew t NM PL := h.below (below_drew w)
theorem key_bd (t : TS) {i j : Int} (h0 : 0 ≤ i) (h1 : i ≤ t.W.size) (h2 : 0 ≤ j) (h3 : j ≤ t.W.size) : 0 ≤ t.key i j ∧ t.key i j < t.S := by
  unfold TS.key TS.S
  have h4 : 0 ≤ i * ((t.W.size : Int) + 1) := Int.mul_nonneg h0 (by omega)
  have h5 : i * ((t.W.size : Int) + 1) ≤ t.W.size * ((t.W.size : Int) + 1) := Int.mul_le_mul_of_nonneg_right h1 (by omega)
  refine ⟨by omega, ?_⟩
  have h6 : (((t.W.size + 1) * (t.W.size + 1) : Nat) : Int) = t.W.size * ((t.W.size : Int) + 1) + (t.W.size + 1) := by
    push_cast; rw [Int.add_mul]; omega
  omega
theorem key_inj (t : TS) {i j i' j' : Int} (h0 : 0 ≤ i) (h2 : 0 ≤ j) (h3 : j ≤ t.W.size) (h0' : 0 ≤ i') (h2' : 0 ≤ j') (h3' : j' ≤ t.W.size) (he : (t.key i j).toNat = (t.key i' j').toNat) : i = i' ∧ j = j' := by
  unfold TS.key at he
  have h4 : 0 ≤ i * ((t.W.size : Int) + 1) := Int.mul_nonneg h0 (by omega)
  have h4' : 0 ≤ i' * ((t.W.size : Int) + 1) := Int.mul_nonneg h0' (by omega)
  have hk : i * ((t.W.size : Int) + 1) + j = i' * ((t.W.size : Int) + 1) + j' := by omega
  have hi : i = i' := by
    rcases Int.lt_trichotomy i i' with h | h | h
    · have h5 : (i + 1) * ((t.W.size : Int) + 1) ≤ i' * ((t.W.size : Int) + 1) := Int.mul_le_mul_of_nonneg_right (by omega) (by omega)
      rw [Int.add_mul] at h5
      omega
    · exact h
    · have h5 : (i' + 1) * ((t.W.size : Int) + 1) ≤ i * ((t.W.size : Int) + 1) := Int.mul_le_mul_of_nonneg_right (by omega) (by omega)
      rw [Int.add_mul] at h5
      omega
  subst hi
  exact ⟨rfl, by omega⟩
theorem mulb (i : Int) (n : Nat) (hi0 : 0 ≤ i) (hi : i ≤ 33) (hW : n ≤ 32) : 0 ≤ i * (n+1) ∧ i * (n + 1) ≤ 1089 := by
  constructor
  · exact Int.mul_nonneg hi0 (by omega)
  · have : i * (n + 1) ≤ 33 * 33 := Int.mul_le_mul hi (by omega) (by omega) (by omega)
    omega

/-- A rank put into a row of places. -/
theorem Rows.putP {w : World} {t : TS} {NM PL : Rk} (h : Rows w t NM PL) (F : t.Fits) {q : Nat} {i j : Int} (hq : q < t.Q) (h0 : 0 ≤ i) (h1 : i ≤ t.W.size) (h2 : 0 ≤ j) (h3 : j ≤ t.W.size) (v : Int) :
    Rows (w.setCell ⟨t.pr q, (t.key i j).toNat, none⟩ (.int .i64 v)) t NM (putR PL q i j v) := by
  refine ⟨fun k a b hk a0 a1 b0 b1 => ?_, fun k a b hk a0 a1 b0 b1 => ?_⟩
  · obtain ⟨x, y⟩ := h.n k a b hk a0 a1 b0 b1
    refine ⟨?_, by simpa using y⟩
    rw [World.cell?_setCell_other _ _ _ _ (fun e => F.apart k q hk hq (by injection e with e1; exact e1.symm))]
    exact x
  · obtain ⟨x, y⟩ := h.p k a b hk a0 a1 b0 b1
    refine ⟨?_, by simpa using y⟩
    by_cases e : k = q ∧ a = i ∧ b = j
    · obtain ⟨rfl, rfl, rfl⟩ := e
      rw [World.cell?_setCell_same _ _ _ x]
      simp [putR]
    · rw [World.cell?_setCell_other]
      · rw [x]; unfold putR; rw [if_neg e]
      · intro e'
        injection e' with e1 e2
        have e3 := F.injP q k hq hk e1
        subst e3
        have e4 := key_inj t h0 h2 h3 a0 b0 b1 e2
        exact e ⟨rfl, e4.1.symm, e4.2.symm⟩
/-- A rank put into a row of names. -/
theorem Rows.putN {w : World} {t : TS} {NM PL : Rk} (h : Rows w t NM PL) (F : t.Fits) {q : Nat} {i j : Int} (hq : q < t.K) (h0 : 0 ≤ i) (h1 : i ≤ t.W.size) (h2 : 0 ≤ j) (h3 : j ≤ t.W.size) (v : Int) :
    Rows (w.setCell ⟨t.nr q, (t.key i j).toNat, none⟩ (.int .i64 v)) t (putR NM q i j v) PL := by
  refine ⟨fun k a b hk a0 a1 b0 b1 => ?_, fun k a b hk a0 a1 b0 b1 => ?_⟩
  · obtain ⟨x, y⟩ := h.n k a b hk a0 a1 b0 b1
    refine ⟨?_, by simpa using y⟩
    by_cases e : k = q ∧ a = i ∧ b = j
    · obtain ⟨rfl, rfl, rfl⟩ := e
      rw [World.cell?_setCell_same _ _ _ x]
      simp [putR]
    · rw [World.cell?_setCell_other]
      · rw [x]; unfold putR; rw [if_neg e]
      · intro e'
        injection e' with e1 e2
        have e3 := F.injN q k hq hk e1
        subst e3
        have e4 := key_inj t h0 h2 h3 a0 b0 b1 e2
        exact e ⟨rfl, e4.1.symm, e4.2.symm⟩
  · obtain ⟨x, y⟩ := h.p k a b hk a0 a1 b0 b1
    refine ⟨?_, by simpa using y⟩
    rw [World.cell?_setCell_other _ _ _ _ (fun e => F.apart q k hq hk (by injection e with e1))]
    exact x

/-! What the code does. -/
def restF (t : TS) (NM PL : Rk) (seq : List Sym) (a pos : Nat) (i j : Int) : Int :=
  match seq[pos]? with
  | none => if i = j then 1 else 0
  | some s =>
    if s.name < 0 then (if i < j ∧ s.lo ≤ btz t.W i ∧ btz t.W i ≤ s.hi ∧ 0 < PL (a + pos + 1) (i + 1) j then wrap64 (PL (a + pos + 1) (i + 1) j + 1) else 0)
    else bestTo (fun d => NM s.name.toNat i (i + d)) (fun d => PL (a + pos + 1) (i + d) j) (j - i + 1).toNat
/-- One place of 'conj'. -/
def conjStep (t : TS) (NM : Rk) (seq : List Sym) (a : Nat) (i j : Int) (pos : Nat) (s : Rk × Bool) : Rk × Bool :=
  if lessB (s.1 (a + pos) i j) (restF t NM s.1 seq a pos i j) then (putR s.1 (a + pos) i j (restF t NM s.1 seq a pos i j), true) else s
/-- The places below n, from the last on. -/
def conjDown (t : TS) (NM : Rk) (seq : List Sym) (a : Nat) (i j : Int) : Nat → Rk × Bool → Rk × Bool
  | 0, s => s
  | n + 1, s => conjDown t NM seq a i j n (conjStep t NM seq a i j n s)
def conjF (t : TS) (NM PL : Rk) (seq : List Sym) (a : Nat) (i j : Int) : Rk × Bool := conjDown t NM seq a i j (seq.length + 1) (PL, false)
/-- 'rule': the conjuncts below n; none: one is as it must not be. -/
def ruleTo (t : TS) (PL : Rk) (r : Nat) (cs : List Conj) (i j : Int) : Nat → Option Int
  | 0 => some 1
  | n + 1 => match ruleTo t PL r cs i j n with
    | none => none
    | some rk => match cs[n]? with
      | none => none
      | some y => if (decide (0 < PL (t.off r n) i j) == y.neg) then none else some (mxz rk (wrap64 (PL (t.off r n) i j + 1)))
def ruleF (t : TS) (PL : Rk) (r : Nat) (cs : List Conj) (i j : Int) : Int := (ruleTo t PL r cs i j cs.length).getD 0
theorem ruleTo_none {t : TS} {PL : Rk} {r : Nat} {cs : List Conj} {i j : Int} {n : Nat} (h : ruleTo t PL r cs i j n = none) (m : Nat) : ruleTo t PL r cs i j (n + m) = none := by
  induction m with
  | zero => exact h
  | succ m ih => rw [← Nat.add_assoc]; simp only [ruleTo, ih]
theorem ruleF_none {t : TS} {PL : Rk} {r : Nat} {cs : List Conj} {i j : Int} {n : Nat} (h : ruleTo t PL r cs i j n = none) (hn : n ≤ cs.length) : ruleF t PL r cs i j = 0 := by
  unfold ruleF
  have := ruleTo_none h (cs.length - n)
  rw [show n + (cs.length - n) = cs.length by omega] at this
  rw [this]; rfl
end Go.Proofs.Ytbidpeggdhkahaa

set_option linter.unusedSimpArgs false
set_option linter.unusedVariables false
namespace Go.Proofs.Ytbidpeggdhkahaa
open Go.RowKit

def headsStep (t : TS) (level : Int) (PL : Rk) (i j : Int) (r : Nat) (x : Rul) (s : Rk × Bool) : Rk × Bool :=
  if t.lev.getD x.head.toNat 0 = level then
    (if lessB (s.1 x.head.toNat i j) (ruleF t PL r x.conj i j) then (putR s.1 x.head.toNat i j (ruleF t PL r x.conj i j), true) else s)
  else s
def headsTo (t : TS) (level : Int) (PL : Rk) (i j : Int) (s : Rk × Bool) : Nat → Rk × Bool
  | 0 => s
  | n + 1 => match t.G.rules[n]? with
    | none => headsTo t level PL i j s n
    | some x => headsStep t level PL i j n x (headsTo t level PL i j s n)
def headsF (t : TS) (level : Int) (NM PL : Rk) (i j : Int) : Rk × Bool := headsTo t level PL i j (NM, false) t.G.rules.length
def passC (t : TS) (NM : Rk) (neg : Bool) (i j : Int) (r : Nat) (cs : List Conj) (s : Rk × Bool) : Nat → Rk × Bool
  | 0 => s
  | n + 1 => match cs[n]? with
    | none => passC t NM neg i j r cs s n
    | some y =>
      if y.neg = neg then ((conjF t NM (passC t NM neg i j r cs s n).1 y.seq (t.off r n) i j).1, (passC t NM neg i j r cs s n).2 || (conjF t NM (passC t NM neg i j r cs s n).1 y.seq (t.off r n) i j).2)
      else passC t NM neg i j r cs s n
def passTo (t : TS) (level : Int) (NM : Rk) (neg : Bool) (i j : Int) (s : Rk × Bool) : Nat → Rk × Bool
  | 0 => s
  | n + 1 => match t.G.rules[n]? with
    | none => passTo t level NM neg i j s n
    | some x => if t.lev.getD x.head.toNat 0 = level then passC t NM neg i j n x.conj (passTo t level NM neg i j s n) x.conj.length else passTo t level NM neg i j s n
def passF (t : TS) (level : Int) (NM PL : Rk) (neg : Bool) (i j : Int) : Rk × Bool := passTo t level NM neg i j (PL, false) t.G.rules.length
/-- One round of a level: its conjuncts that are not negated, then its names; did something become less? -/
def roundF (t : TS) (level : Int) (i j : Int) (st : Rk × Rk) : (Rk × Rk) × Bool :=
  (((headsF t level st.1 (passF t level st.1 st.2 false i j).1 i j).1, (passF t level st.1 st.2 false i j).1),
    (passF t level st.1 st.2 false i j).2 || (headsF t level st.1 (passF t level st.1 st.2 false i j).1 i j).2)
inductive RunsN (t : TS) (level : Int) (i j : Int) : Nat → Rk × Rk → Rk × Rk → Prop
  | stop {st : Rk × Rk} (h : (roundF t level i j st).2 = false) : RunsN t level i j 0 st (roundF t level i j st).1
  | more {n : Nat} {st st' : Rk × Rk} (h : (roundF t level i j st).2 = true) (k : RunsN t level i j n (roundF t level i j st).1 st') : RunsN t level i j (n + 1) st st'
theorem runs_true {t : TS} {level i j : Int} {m : Nat} {st fin : Rk × Rk} (h : RunsN t level i j m st fin) (ht : (roundF t level i j st).2 = true) : ∃ n, m = n + 1 ∧ RunsN t level i j n (roundF t level i j st).1 fin := by
  cases h with
  | stop h => rw [h] at ht; cases ht
  | more h k => exact ⟨_, rfl, k⟩
theorem runs_false {t : TS} {level i j : Int} {m : Nat} {st fin : Rk × Rk} (h : RunsN t level i j m st fin) (ht : (roundF t level i j st).2 = false) : m = 0 ∧ fin = (roundF t level i j st).1 := by
  cases h with
  | stop h => exact ⟨rfl, rfl⟩
  | more h k => rw [h] at ht; cases ht
def LevelDone (t : TS) (level : Int) (i j : Int) (st st' : Rk × Rk) : Prop := ∃ n, RunsN t level i j n (st.1, (passF t level st.1 st.2 true i j).1) st'
def cSum (cs : List Conj) : Nat → Nat
  | 0 => 0
  | n + 1 => cSum cs n + (match cs[n]? with | some y => y.seq.length + 1 | none => 0)
def rSum (rs : List Rul) : Nat → Nat
  | 0 => 0
  | n + 1 => rSum rs n + (match rs[n]? with | some x => cSum x.conj x.conj.length | none => 0)
def offG (G : Gram) (r c : Nat) : Nat := rSum G.rules r + (match G.rules[r]? with | some x => cSum x.conj c | none => 0)
def qG (G : Gram) : Nat := rSum G.rules G.rules.length
/-- A grammar's sizes. -/
structure GFits (G : Gram) (lev : List Int) : Prop where
  K1 : 1 ≤ G.names.length
  K64 : G.names.length ≤ 64
  rules : G.rules.length ≤ 256
  rules1 : 1 ≤ G.rules.length
  conj : ∀ (r : Nat) (x : Rul), G.rules[r]? = some x → 1 ≤ x.conj.length ∧ x.conj.length ≤ 8
  seq : ∀ (r : Nat) (x : Rul) (c : Nat) (y : Conj), G.rules[r]? = some x → x.conj[c]? = some y → y.seq.length ≤ 64
  sym : ∀ (r : Nat) (x : Rul) (c : Nat) (y : Conj) (k : Nat) (s : Sym), G.rules[r]? = some x → x.conj[c]? = some y → y.seq[k]? = some s → s.name < G.names.length
  head : ∀ (r : Nat) (x : Rul), G.rules[r]? = some x → 0 ≤ x.head ∧ x.head < G.names.length
  lev : lev.length = G.names.length
  Q : qG G ≤ 100000
theorem cSum_mono (cs : List Conj) {a b : Nat} (h : a ≤ b) : cSum cs a ≤ cSum cs b := by
  induction h with
  | refl => exact Nat.le_refl _
  | step h ih => exact Nat.le_trans ih (Nat.le_add_right _ _)
theorem rSum_mono (rs : List Rul) {a b : Nat} (h : a ≤ b) : rSum rs a ≤ rSum rs b := by
  induction h with
  | refl => exact Nat.le_refl _
  | step h ih => exact Nat.le_trans ih (Nat.le_add_right _ _)
theorem cSum_succ {cs : List Conj} {k : Nat} {y : Conj} (h : cs[k]? = some y) : cSum cs (k + 1) = cSum cs k + (y.seq.length + 1) := by simp [cSum, h]
theorem rSum_succ {rs : List Rul} {r : Nat} {x : Rul} (h : rs[r]? = some x) : rSum rs (r + 1) = rSum rs r + cSum x.conj x.conj.length := by simp [rSum, h]
theorem q_lt {G : Gram} {r : Nat} {x : Rul} {k : Nat} {y : Conj} (hx : G.rules[r]? = some x) (hy : x.conj[k]? = some y) : rSum G.rules r + cSum x.conj k + (y.seq.length + 1) ≤ qG G := by
  have h1 := cSum_mono x.conj (show k + 1 ≤ x.conj.length by have := (List.getElem?_eq_some_iff.1 hy).1; omega)
  have h2 := rSum_mono G.rules (show r + 1 ≤ G.rules.length by have := (List.getElem?_eq_some_iff.1 hx).1; omega)
  rw [cSum_succ hy] at h1
  rw [rSum_succ hx] at h2
  unfold qG
  omega
theorem new_Q {G : Gram} {lev : List Int} (F : GFits G lev) {r : Nat} {x : Rul} {k : Nat} {y : Conj} (hx : G.rules[r]? = some x) (_ : k < x.conj.length) (hy : x.conj[k]? = some y) {n q np : Nat} (hn : n = rSum G.rules r + cSum x.conj k) (hq : q < y.seq.length + 1) (h : np = n + q) : np < 100000 := by
  have := q_lt hx hy
  have := F.Q
  omega
/-- A span is done. -/
def SpanDone (t : TS) (i j : Int) (st st' : Rk × Rk) : Prop := ∃ sq : Nat → Rk × Rk, sq 0 = st ∧ (∀ k : Nat, k < t.K → LevelDone t k i j (sq k) (sq (k + 1))) ∧ sq t.K = st'
/-- All spans are done, the shorter ones first. -/
def AllDone (t : TS) (fin : Rk × Rk) : Prop := ∃ f : Nat → Nat → Rk × Rk, f 0 0 = (fun _ _ _ => 0, fun _ _ _ => 0) ∧
  (∀ l i : Nat, l + i ≤ t.W.size → SpanDone t i (i + l) (f l i) (f l (i + 1))) ∧ (∀ l : Nat, l ≤ t.W.size → f (l + 1) 0 = f l (t.W.size + 1 - l)) ∧ f (t.W.size + 1) 0 = fin
/-- Is it a place? -/
def placeB (rules : List Rul) (r c p : Int) : Bool :=
  decide (0 ≤ r) && (match rules[r.toNat]? with
    | none => false
    | some x => decide (0 ≤ c) && (match x.conj[c.toNat]? with
      | none => false
      | some y => decide (0 ≤ p) && decide (p ≤ y.seq.length)))
def spanB (t : TS) (i j : Int) : Bool := decide (0 ≤ i) && decide (i ≤ j) && decide (j ≤ t.W.size)
def nameK (t : TS) (k : Int) : Bool := decide (0 ≤ k) && decide (k < t.K)
def TS.rank (t : TS) (NM : Rk) (k i j : Int) : Int := if nameK t k && spanB t i j then NM k.toNat i j else 0
def TS.rrank (t : TS) (PL : Rk) (r c p i j : Int) : Int := if placeB t.G.rules r c p && spanB t i j then PL (t.off r.toNat c.toNat + p.toNat) i j else 0
theorem place_of {rules : List Rul} {r c q : Int} (h : placeB rules r c q = true) : ∃ (rn cn qn : Nat) (x : Rul) (y : Conj), r = (rn : Int) ∧ c = (cn : Int) ∧ q = (qn : Int) ∧ rules[rn]? = some x ∧ x.conj[cn]? = some y ∧ qn ≤ y.seq.length := by
  unfold placeB at h
  cases hx : rules[r.toNat]? with
  | none => rw [hx] at h; simp at h
  | some x =>
    rw [hx] at h
    cases hy : x.conj[c.toNat]? with
    | none => simp [hy] at h
    | some y =>
      simp only [hy, Bool.and_eq_true, decide_eq_true_eq] at h
      exact ⟨r.toNat, c.toNat, q.toNat, x, y, by omega, by omega, by omega, hx, hy, by omega⟩
/-- What 'strata.Strata' leaves; Ref: it refuses; Good: its levels. -/
def StrataPost (w : World) (Ref : Prop) (Good : List Int → Prop) (e : Ending) (w' : World) : Prop :=
  Below w.heap.size w w' ∧ ((Ref ∧ ∃ (v : Value) (c : Int), e = .returned (.tuple #[.slice none 0 0, v, .int .i64 c]) ∧ (c == 0) = false ∧ (c != 0) = true) ∨
    (∃ (A : Option Addr) (cp : Nat) (lev : List Int), Good lev ∧ e = .returned (.tuple #[.slice A lev.length cp, .slice none 0 0, .int .i64 0]) ∧ lev.length ≤ cp ∧ cp ≤ 9223372036854775807 ∧ ∀ w'', Upd (fun b => b < w.heap.size) w' w'' → Rd.int.C w'' A lev))
end Go.Proofs.Ytbidpeggdhkahaa
