/-
  Mp: what the table's reckoning is, as plain functions and relations (passes, rounds, levels, spans; places' numbers). No program in sight.
-/
import Derived.Test.YtfmfoiecphhhiaaM0
set_option linter.unusedSimpArgs false
set_option linter.unusedVariables false
namespace Go.Proofs.Ytfmfoiecphhhiaa
open Go.RowKit

def headsStep (t : TS) (level : Int) (PL : Rk) (i j : Int) (r : Nat) (x : Rul) (s : Rk × Bool) : Rk × Bool :=
  if t.lev.getD x.head.toNat 0 = level then
    (if lessB (s.1 x.head.toNat i j) (ruleF t PL r x.conj i j) then (putR s.1 x.head.toNat i j (ruleF t PL r x.conj i j), true) else s)
  else s
def headsTo (t : TS) (level : Int) (PL : Rk) (i j : Int) (s : Rk × Bool) : Nat → Rk × Bool
  | 0 => s
  | n + 1 => match t.G.rules[n]? with
    | none => headsTo t level PL i j s n
    | some x => headsStep t level PL i j n x (headsTo t level PL i j s n)
def headsF (t : TS) (level : Int) (NM PL : Rk) (i j : Int) : Rk × Bool := headsTo t level PL i j (NM, false) t.G.rules.length
def passC (t : TS) (NM : Rk) (neg : Bool) (i j : Int) (r : Nat) (cs : List Conj) (s : Rk × Bool) : Nat → Rk × Bool
  | 0 => s
  | n + 1 => match cs[n]? with
    | none => passC t NM neg i j r cs s n
    | some y =>
      if y.neg = neg then ((conjF t NM (passC t NM neg i j r cs s n).1 y.seq (t.off r n) i j).1, (passC t NM neg i j r cs s n).2 || (conjF t NM (passC t NM neg i j r cs s n).1 y.seq (t.off r n) i j).2)
      else passC t NM neg i j r cs s n
def passTo (t : TS) (level : Int) (NM : Rk) (neg : Bool) (i j : Int) (s : Rk × Bool) : Nat → Rk × Bool
  | 0 => s
  | n + 1 => match t.G.rules[n]? with
    | none => passTo t level NM neg i j s n
    | some x => if t.lev.getD x.head.toNat 0 = level then passC t NM neg i j n x.conj (passTo t level NM neg i j s n) x.conj.length else passTo t level NM neg i j s n
def passF (t : TS) (level : Int) (NM PL : Rk) (neg : Bool) (i j : Int) : Rk × Bool := passTo t level NM neg i j (PL, false) t.G.rules.length
/-- One round of a level: its conjuncts that are not negated, then its names; did something become less? -/
def roundF (t : TS) (level : Int) (i j : Int) (st : Rk × Rk) : (Rk × Rk) × Bool :=
  (((headsF t level st.1 (passF t level st.1 st.2 false i j).1 i j).1, (passF t level st.1 st.2 false i j).1),
    (passF t level st.1 st.2 false i j).2 || (headsF t level st.1 (passF t level st.1 st.2 false i j).1 i j).2)
inductive RunsN (t : TS) (level : Int) (i j : Int) : Nat → Rk × Rk → Rk × Rk → Prop
  | stop {st : Rk × Rk} (h : (roundF t level i j st).2 = false) : RunsN t level i j 0 st (roundF t level i j st).1
  | more {n : Nat} {st st' : Rk × Rk} (h : (roundF t level i j st).2 = true) (k : RunsN t level i j n (roundF t level i j st).1 st') : RunsN t level i j (n + 1) st st'
theorem runs_true {t : TS} {level i j : Int} {m : Nat} {st fin : Rk × Rk} (h : RunsN t level i j m st fin) (ht : (roundF t level i j st).2 = true) : ∃ n, m = n + 1 ∧ RunsN t level i j n (roundF t level i j st).1 fin := by
  cases h with
  | stop h => rw [h] at ht; cases ht
  | more h k => exact ⟨_, rfl, k⟩
theorem runs_false {t : TS} {level i j : Int} {m : Nat} {st fin : Rk × Rk} (h : RunsN t level i j m st fin) (ht : (roundF t level i j st).2 = false) : m = 0 ∧ fin = (roundF t level i j st).1 := by
  cases h with
  | stop h => exact ⟨rfl, rfl⟩
  | more h k => rw [h] at ht; cases ht
def LevelDone (t : TS) (level : Int) (i j : Int) (st st' : Rk × Rk) : Prop := ∃ n, RunsN t level i j n (st.1, (passF t level st.1 st.2 true i j).1) st'
def cSum (cs : List Conj) : Nat → Nat
  | 0 => 0
  | n + 1 => cSum cs n + (match cs[n]? with | some y => y.seq.length + 1 | none => 0)
def rSum (rs : List Rul) : Nat → Nat
  | 0 => 0
  | n + 1 => rSum rs n + (match rs[n]? with | some x => cSum x.conj x.conj.length | none => 0)
def offG (G : Gram) (r c : Nat) : Nat := rSum G.rules r + (match G.rules[r]? with | some x => cSum x.conj c | none => 0)
def qG (G : Gram) : Nat := rSum G.rules G.rules.length
/-- A grammar's sizes. -/
structure GFits (G : Gram) (lev : List Int) : Prop where
  K1 : 1 ≤ G.names.length
  K64 : G.names.length ≤ 64
  rules : G.rules.length ≤ 256
  rules1 : 1 ≤ G.rules.length
  conj : ∀ (r : Nat) (x : Rul), G.rules[r]? = some x → 1 ≤ x.conj.length ∧ x.conj.length ≤ 8
  seq : ∀ (r : Nat) (x : Rul) (c : Nat) (y : Conj), G.rules[r]? = some x → x.conj[c]? = some y → y.seq.length ≤ 64
  sym : ∀ (r : Nat) (x : Rul) (c : Nat) (y : Conj) (k : Nat) (s : Sym), G.rules[r]? = some x → x.conj[c]? = some y → y.seq[k]? = some s → s.name < G.names.length
  head : ∀ (r : Nat) (x : Rul), G.rules[r]? = some x → 0 ≤ x.head ∧ x.head < G.names.length
  lev : lev.length = G.names.length
  Q : qG G ≤ 100000
theorem cSum_mono (cs : List Conj) {a b : Nat} (h : a ≤ b) : cSum cs a ≤ cSum cs b := by
  induction h with
  | refl => exact Nat.le_refl _
  | step h ih => exact Nat.le_trans ih (Nat.le_add_right _ _)
theorem rSum_mono (rs : List Rul) {a b : Nat} (h : a ≤ b) : rSum rs a ≤ rSum rs b := by
  induction h with
  | refl => exact Nat.le_refl _
  | step h ih => exact Nat.le_trans ih (Nat.le_add_right _ _)
theorem cSum_succ {cs : List Conj} {k : Nat} {y : Conj} (h : cs[k]? = some y) : cSum cs (k + 1) = cSum cs k + (y.seq.length + 1) := by simp [cSum, h]
theorem rSum_succ {rs : List Rul} {r : Nat} {x : Rul} (h : rs[r]? = some x) : rSum rs (r + 1) = rSum rs r + cSum x.conj x.conj.length := by simp [rSum, h]
theorem q_lt {G : Gram} {r : Nat} {x : Rul} {k : Nat} {y : Conj} (hx : G.rules[r]? = some x) (hy : x.conj[k]? = some y) : rSum G.rules r + cSum x.conj k + (y.seq.length + 1) ≤ qG G := by
  have h1 := cSum_mono x.conj (show k + 1 ≤ x.conj.length by have := (List.getElem?_eq_some_iff.1 hy).1; omega)
  have h2 := rSum_mono G.rules (show r + 1 ≤ G.rules.length by have := (List.getElem?_eq_some_iff.1 hx).1; omega)
  rw [cSum_succ hy] at h1
  rw [rSum_succ hx] at h2
  unfold qG
  omega
theorem new_Q {G : Gram} {lev : List Int} (F : GFits G lev) {r : Nat} {x : Rul} {k : Nat} {y : Conj} (hx : G.rules[r]? = some x) (_ : k < x.conj.length) (hy : x.conj[k]? = some y) {n q np : Nat} (hn : n = rSum G.rules r + cSum x.conj k) (hq : q < y.seq.length + 1) (h : np = n + q) : np < 100000 := by
  have := q_lt hx hy
  have := F.Q
  omega
/-- A span is done. -/
def SpanDone (t : TS) (i j : Int) (st st' : Rk × Rk) : Prop := ∃ sq : Nat → Rk × Rk, sq 0 = st ∧ (∀ k : Nat, k < t.K → LevelDone t k i j (sq k) (sq (k + 1))) ∧ sq t.K = st'
/-- All spans are done, the shorter ones first. -/
def AllDone (t : TS) (fin : Rk × Rk) : Prop := ∃ f : Nat → Nat → Rk × Rk, f 0 0 = (fun _ _ _ => 0, fun _ _ _ => 0) ∧
  (∀ l i : Nat, l + i ≤ t.W.size → SpanDone t i (i + l) (f l i) (f l (i + 1))) ∧ (∀ l : Nat, l ≤ t.W.size → f (l + 1) 0 = f l (t.W.size + 1 - l)) ∧ f (t.W.size + 1) 0 = fin
/-- Is it a place? -/
def placeB (rules : List Rul) (r c p : Int) : Bool :=
  decide (0 ≤ r) && (match rules[r.toNat]? with
    | none => false
    | some x => decide (0 ≤ c) && (match x.conj[c.toNat]? with
      | none => false
      | some y => decide (0 ≤ p) && decide (p ≤ y.seq.length)))
def spanB (t : TS) (i j : Int) : Bool := decide (0 ≤ i) && decide (i ≤ j) && decide (j ≤ t.W.size)
def nameK (t : TS) (k : Int) : Bool := decide (0 ≤ k) && decide (k < t.K)
def TS.rank (t : TS) (NM : Rk) (k i j : Int) : Int := if nameK t k && spanB t i j then NM k.toNat i j else 0
def TS.rrank (t : TS) (PL : Rk) (r c p i j : Int) : Int := if placeB t.G.rules r c p && spanB t i j then PL (t.off r.toNat c.toNat + p.toNat) i j else 0
theorem place_of {rules : List Rul} {r c q : Int} (h : placeB rules r c q = true) : ∃ (rn cn qn : Nat) (x : Rul) (y : Conj), r = (rn : Int) ∧ c = (cn : Int) ∧ q = (qn : Int) ∧ rules[rn]? = some x ∧ x.conj[cn]? = some y ∧ qn ≤ y.seq.length := by
  unfold placeB at h
  cases hx : rules[r.toNat]? with
  | none => rw [hx] at h; simp at h
  | some x =>
    rw [hx] at h
    cases hy : x.conj[c.toNat]? with
    | none => simp [hy] at h
    | some y =>
      simp only [hy, Bool.and_eq_true, decide_eq_true_eq] at h
      exact ⟨r.toNat, c.toNat, q.toNat, x, y, by omega, by omega, by omega, hx, hy, by omega⟩
/-- What 'strata.Strata' leaves; Ref: it refuses; Good: its levels. -/
def StrataPost (w : World) (Ref : Prop) (Good : List Int → Prop) (e : Ending) (w' : World) : Prop :=
  Below w.heap.size w w' ∧ ((Ref ∧ ∃ (v : Value) (c : Int), e = .returned (.tuple #[.slice none 0 0, v, .int .i64 c]) ∧ (c == 0) = false ∧ (c != 0) = true) ∨
    (∃ (A : Option Addr) (cp : Nat) (lev : List Int), Good lev ∧ e = .returned (.tuple #[.slice A lev.length cp, .slice none 0 0, .int .i64 0]) ∧ lev.length ≤ cp ∧ cp ≤ 9223372036854775807 ∧ Rd.int.C w' A lev))
end Go.Proofs.Ytfmfoiecphhhiaa
