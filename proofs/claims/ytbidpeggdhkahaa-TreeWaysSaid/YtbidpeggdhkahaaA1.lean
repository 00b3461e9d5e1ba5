/-
  A1: plain notions for the walks: how Go's data read in memory (Rd), what may be turned (Upd). No program in sight.
-/
import Derived.Below
import Derived.WalkKit
import Derived.Deep.Draws
set_option linter.unusedSimpArgs false
set_option linter.unusedVariables false
namespace Go.Proofs.Ytbidpeggdhkahaa
open Go.RowKit

/-- A symbol of a grammar. -/
structure Sym where
  name : Int
  lo : Int
  hi : Int
structure Conj where
  neg : Bool
  seq : List Sym
structure Rul where
  head : Int
  conj : List Conj
structure Gram where
  start : Int
  names : List ByteArray
  rules : List Rul

theorem block_of_add (a : Addr) (n : Nat) : (a.add n).block = a.block := by unfold Addr.add; split <;> rfl
theorem add_of_add (a : Addr) (i j : Nat) : (a.add i).add j = a.add (i + j) := by
  unfold Addr.add
  by_cases hi : i = 0 <;> by_cases hj : j = 0 <;> simp [hi, hj, Nat.add_assoc]
theorem add_plain (g o j : Nat) : (⟨g, o, none⟩ : Addr).add j = ⟨g, o + j, none⟩ := by unfold Addr.add; split <;> simp_all
theorem add_off (a : Addr) (i j : Nat) (hj : 0 < j) : a.add (i + j) = ⟨(a.add i).block, (a.add i).off + j, none⟩ := by
  unfold Addr.add
  by_cases hi : i = 0
  · subst hi; simp [show j ≠ 0 by omega]
  · simp [hi, show ¬ (i + j = 0) by omega, Nat.add_assoc]

theorem below_refl (w : World) : Below w.heap.size w w := Below.refl _ _
theorem below_then {w w1 w2 : World} (h : Below w.heap.size w w1) (k : Below w1.heap.size w1 w2) : Below w.heap.size w w2 :=
  h.trans (k.mono h.size)
theorem pw_below_drewN {B : Nat} {w W : World} (h : Below B w W) (n : Nat) : Below B w (W.drewN n) := ⟨h.os, h.tape, h.output, h.size, h.block⟩
theorem below_cell {w w1 : World} (h : Below w.heap.size w w1) {a : Addr} {v : Value} (hc : w.cell? a = some v) : w1.cell? a = some v :=
  (h.cell (World.block_lt_of_cell? w a hc)).trans hc
theorem below_froz {w w1 : World} (h : Below w.heap.size w w1) {a : Addr} {v : Value} (hc : w.cell? a = some v) (hf : w.frozen? a = false) : w1.frozen? a = false :=
  (h.frozen (World.block_lt_of_cell? w a hc)).trans hf

/-- 'max' and 'min' of two ints, into which the walk does not look. -/
def mxz (a b : Int) : Int := if a < b then b else a
def mnz (a b : Int) : Int := if b < a then b else a
theorem max2_mxz (k k' : IntKind) (x y : Int) : Builtin.max2 (.int k x) (.int k' y) = pure (.int k (mxz x y)) := by simp only [Builtin.max2, gt_iff_lt, mxz]
theorem max_mxz (ats : Array TypeId) (ty : TypeId) (a b : Value) : Builtin.max_ ats ty #[a, b] = (Builtin.max2 a b >>= fun s => pure s) := by simp only [Builtin.max_, List.foldlM_cons, List.foldlM_nil]
theorem mxz_eq (a b : Int) : mxz a b = max a b := by unfold mxz; omega

/-- Byte i of a text. -/
def btz (s : ByteArray) (i : Int) : Int := if h : i.toNat < s.size then ((s[i.toNat]'h).toNat : Int) else 0
theorem btz_at (s : ByteArray) (i : Int) : ∀ h : i.toNat < s.size, ((s[i.toNat]'h).toNat : Int) = btz s i := fun h => by simp [btz, h]
theorem btz_range (s : ByteArray) (i : Int) : 0 ≤ btz s i ∧ btz s i ≤ 255 := by
  unfold btz
  split
  · rename_i h
    have := (s[i.toNat]'h).toNat_lt
    omega
  · omega

/-- How a Lean value lies in cells. -/
structure Rd (α : Type) where
  sz : Nat
  K : World → α → List Value → Prop
  len : ∀ {w x cs}, K w x cs → cs.length = sz
  one : ∀ {w x cs}, K w x cs → ∀ u ∈ cs, u.oneCell' = true
  mono : ∀ {w w' x cs}, Below w.heap.size w w' → K w x cs → K w' x cs

namespace Rd
def val {α : Type} (enc : α → Value) (h1 : ∀ x, (enc x).oneCell' = true) : Rd α where
  sz := 1
  K _ x cs := cs = [enc x]
  len h := by subst h; rfl
  one h u hu := by subst h; simp only [List.mem_singleton] at hu; subst hu; exact h1 _
  mono _ h := h
def int : Rd Int := val (Value.int .i64) (fun _ => rfl)
def bool : Rd Bool := val Value.bool (fun _ => rfl)
def str : Rd ByteArray := val Value.string (fun _ => rfl)

/-- The elements of a slice at A. -/
def C {α : Type} (d : Rd α) (w : World) (A : Option Addr) (xs : List α) : Prop :=
  ∀ (i : Nat) (x : α), xs[i]? = some x → ∃ ad cs, A = some ad ∧ d.K w x cs ∧ ∀ (j : Nat) (v : Value), cs[j]? = some v → w.cell? (ad.add (i * d.sz + j)) = some v
theorem C.mono {α : Type} {d : Rd α} {w w' : World} {A : Option Addr} {xs : List α} (h : d.C w A xs) (hb : Below w.heap.size w w') : d.C w' A xs := by
  intro i x hx
  obtain ⟨ad, cs, hA, hK, hc⟩ := h i x hx
  exact ⟨ad, cs, hA, d.mono hb hK, fun j v hv => below_cell hb (hc j v hv)⟩
theorem C.nil {α : Type} (d : Rd α) (w : World) (A : Option Addr) : d.C w A [] := by intro i x h; simp at h
/-- A slice. -/
def sl {α : Type} (d : Rd α) : Rd (List α) where
  sz := 1
  K w xs cs := ∃ A c, cs = [.slice A xs.length c] ∧ xs.length ≤ c ∧ c ≤ 9223372036854775807 ∧ d.C w A xs
  len h := by obtain ⟨A, c, rfl, _⟩ := h; rfl
  one h u hu := by obtain ⟨A, c, rfl, _⟩ := h; simp only [List.mem_singleton] at hu; subst hu; rfl
  mono hb h := by obtain ⟨A, c, rfl, h1, h2, h3⟩ := h; exact ⟨A, c, rfl, h1, h2, h3.mono hb⟩
def pair {α β : Type} (a : Rd α) (b : Rd β) : Rd (α × β) where
  sz := a.sz + b.sz
  K w x cs := ∃ c1 c2, cs = c1 ++ c2 ∧ a.K w x.1 c1 ∧ b.K w x.2 c2
  len h := by obtain ⟨c1, c2, rfl, h1, h2⟩ := h; simp [a.len h1, b.len h2]
  one h u hu := by
    obtain ⟨c1, c2, rfl, h1, h2⟩ := h
    rcases List.mem_append.1 hu with hu | hu
    · exact a.one h1 u hu
    · exact b.one h2 u hu
  mono hb h := by obtain ⟨c1, c2, rfl, h1, h2⟩ := h; exact ⟨c1, c2, rfl, a.mono hb h1, b.mono hb h2⟩
def iso {α β : Type} (d : Rd α) (f : β → α) : Rd β where
  sz := d.sz
  K w x cs := d.K w (f x) cs
  len h := d.len h
  one h := d.one h
  mono hb h := d.mono hb h

/-- Element i of a slice whose elements are one cell each. -/
theorem C.one {α : Type} {enc : α → Value} {h1 : ∀ x, (enc x).oneCell' = true} {w : World} {A : Option Addr} {xs : List α} (h : (val enc h1).C w A xs) {i : Nat} {x : α} (hx : xs[i]? = some x) :
    ∃ ad, A = some ad ∧ w.cell? (ad.add i) = some (enc x) := by
  obtain ⟨ad, cs, hA, rfl, hc⟩ := h i x hx
  exact ⟨ad, hA, by have := hc 0 _ rfl; simpa [val] using this⟩
end Rd

def symRd : Rd Sym := Rd.iso (Rd.pair Rd.int (Rd.pair Rd.int Rd.int)) (fun x => (x.name, x.lo, x.hi))
def conjRd : Rd Conj := Rd.iso (Rd.pair Rd.bool (Rd.sl symRd)) (fun x => (x.neg, x.seq))
def rulRd : Rd Rul := Rd.iso (Rd.pair Rd.int (Rd.sl conjRd)) (fun x => (x.head, x.conj))
def gramRd : Rd Gram := Rd.iso (Rd.pair Rd.int (Rd.pair (Rd.sl Rd.str) (Rd.sl rulRd))) (fun x => (x.start, x.names, x.rules))

theorem symRd_open {w : World} {x : Sym} {cs : List Value} (h : symRd.K w x cs) : cs = [.int .i64 x.name, .int .i64 x.lo, .int .i64 x.hi] := by
  obtain ⟨c1, c2, rfl, rfl, c3, c4, rfl, rfl, rfl⟩ := h
  rfl
theorem symRd_mk (w : World) (x : Sym) : symRd.K w x [.int .i64 x.name, .int .i64 x.lo, .int .i64 x.hi] := ⟨[_], [_, _], rfl, rfl, [_], [_], rfl, rfl, rfl⟩
theorem conjRd_open {w : World} {x : Conj} {cs : List Value} (h : conjRd.K w x cs) : ∃ A c, cs = [.bool x.neg, .slice A x.seq.length c] ∧ x.seq.length ≤ c ∧ c ≤ 9223372036854775807 ∧ symRd.C w A x.seq := by
  obtain ⟨c1, c2, rfl, rfl, A, c, rfl, h1, h2, h3⟩ := h
  exact ⟨A, c, rfl, h1, h2, h3⟩
theorem conjRd_mk {w : World} {x : Conj} {A : Option Addr} {c : Nat} (h1 : x.seq.length ≤ c) (h2 : c ≤ 9223372036854775807) (h3 : symRd.C w A x.seq) : conjRd.K w x [.bool x.neg, .slice A x.seq.length c] :=
  ⟨[_], [_], rfl, rfl, A, c, rfl, h1, h2, h3⟩
theorem rulRd_open {w : World} {x : Rul} {cs : List Value} (h : rulRd.K w x cs) : ∃ A c, cs = [.int .i64 x.head, .slice A x.conj.length c] ∧ x.conj.length ≤ c ∧ c ≤ 9223372036854775807 ∧ conjRd.C w A x.conj := by
  obtain ⟨c1, c2, rfl, rfl, A, c, rfl, h1, h2, h3⟩ := h
  exact ⟨A, c, rfl, h1, h2, h3⟩
theorem rulRd_mk {w : World} {x : Rul} {A : Option Addr} {c : Nat} (h1 : x.conj.length ≤ c) (h2 : c ≤ 9223372036854775807) (h3 : conjRd.C w A x.conj) : rulRd.K w x [.int .i64 x.head, .slice A x.conj.length c] :=
  ⟨[_], [_], rfl, rfl, A, c, rfl, h1, h2, h3⟩
theorem gramRd_open {w : World} {x : Gram} {cs : List Value} (h : gramRd.K w x cs) : ∃ A c A' c', cs = [.int .i64 x.start, .slice A x.names.length c, .slice A' x.rules.length c'] ∧ x.names.length ≤ c ∧ c ≤ 9223372036854775807 ∧ Rd.str.C w A x.names ∧ x.rules.length ≤ c' ∧ c' ≤ 9223372036854775807 ∧ rulRd.C w A' x.rules := by
  obtain ⟨c1, c2, rfl, rfl, c3, c4, rfl, ⟨A, c, rfl, h1, h2, h3⟩, A', c', rfl, h4, h5, h6⟩ := h
  exact ⟨A, c, A', c', rfl, h1, h2, h3, h4, h5, h6⟩
theorem gramRd_mk {w : World} {x : Gram} {A A' : Option Addr} {c c' : Nat} (h1 : x.names.length ≤ c) (h2 : c ≤ 9223372036854775807) (h3 : Rd.str.C w A x.names) (h4 : x.rules.length ≤ c') (h5 : c' ≤ 9223372036854775807) (h6 : rulRd.C w A' x.rules) :
    gramRd.K w x [.int .i64 x.start, .slice A x.names.length c, .slice A' x.rules.length c'] :=
  ⟨[_], [_, _], rfl, rfl, [_], [_], rfl, ⟨A, c, rfl, h1, h2, h3⟩, A', c', rfl, h4, h5, h6⟩

/-- Element i of a slice of symbols, in the walk's spelling. -/
theorem sym_at {w : World} {A : Option Addr} {xs : List Sym} (h : symRd.C w A xs) {i : Nat} {x : Sym} (hx : xs[i]? = some x) :
    ∃ ad, A = some ad ∧ ad.block < w.heap.size ∧ w.cell? (ad.add (i * 3)) = some (.int .i64 x.name) ∧
      w.cell? ⟨(ad.add (i * 3)).block, (ad.add (i * 3)).off + 1, none⟩ = some (.int .i64 x.lo) ∧
      w.cell? ⟨(ad.add (i * 3)).block, (ad.add (i * 3)).off + 2, none⟩ = some (.int .i64 x.hi) := by
  obtain ⟨ad, cs, hA, hK, hc⟩ := h i x hx
  obtain rfl := symRd_open hK
  have h0 := hc 0 _ rfl
  have h1 := hc 1 _ rfl
  have h2 := hc 2 _ rfl
  rw [show symRd.sz = 3 from rfl] at h0 h1 h2
  rw [add_off _ _ _ (by omega)] at h1 h2
  refine ⟨ad, hA, ?_, h0, h1, h2⟩
  have := World.block_lt_of_cell? w _ h0
  rwa [block_of_add] at this
theorem conj_at {w : World} {A : Option Addr} {xs : List Conj} (h : conjRd.C w A xs) {i : Nat} {x : Conj} (hx : xs[i]? = some x) :
    ∃ ad A1 c1, A = some ad ∧ ad.block < w.heap.size ∧ w.cell? (ad.add (i * 2)) = some (.bool x.neg) ∧
      w.cell? ⟨(ad.add (i * 2)).block, (ad.add (i * 2)).off + 1, none⟩ = some (.slice A1 x.seq.length c1) ∧ x.seq.length ≤ c1 ∧ c1 ≤ 9223372036854775807 ∧ symRd.C w A1 x.seq := by
  obtain ⟨ad, cs, hA, hK, hc⟩ := h i x hx
  obtain ⟨A1, c1, rfl, k1, k2, k3⟩ := conjRd_open hK
  have h0 := hc 0 _ rfl
  have h1 := hc 1 _ rfl
  rw [show conjRd.sz = 2 from rfl] at h0 h1
  rw [add_off _ _ _ (by omega)] at h1
  refine ⟨ad, A1, c1, hA, ?_, h0, h1, k1, k2, k3⟩
  have := World.block_lt_of_cell? w _ h0
  rwa [block_of_add] at this
theorem rul_at {w : World} {A : Option Addr} {xs : List Rul} (h : rulRd.C w A xs) {i : Nat} {x : Rul} (hx : xs[i]? = some x) :
    ∃ ad A1 c1, A = some ad ∧ ad.block < w.heap.size ∧ w.cell? (ad.add (i * 2)) = some (.int .i64 x.head) ∧
      w.cell? ⟨(ad.add (i * 2)).block, (ad.add (i * 2)).off + 1, none⟩ = some (.slice A1 x.conj.length c1) ∧ x.conj.length ≤ c1 ∧ c1 ≤ 9223372036854775807 ∧ conjRd.C w A1 x.conj := by
  obtain ⟨ad, cs, hA, hK, hc⟩ := h i x hx
  obtain ⟨A1, c1, rfl, k1, k2, k3⟩ := rulRd_open hK
  have h0 := hc 0 _ rfl
  have h1 := hc 1 _ rfl
  rw [show rulRd.sz = 2 from rfl] at h0 h1
  rw [add_off _ _ _ (by omega)] at h1
  refine ⟨ad, A1, c1, hA, ?_, h0, h1, k1, k2, k3⟩
  have := World.block_lt_of_cell? w _ h0
  rwa [block_of_add] at this

/-- A grammar's rules as they lie in memory, with the addresses of their slices. -/
structure RulesAt (w : World) (ra : Option Addr) (ca : Nat → Option Addr) (sa : Nat → Nat → Option Addr) (rules : List Rul) : Prop where
  rul : ∀ (r : Nat) (x : Rul), rules[r]? = some x → ∃ ad c, ra = some ad ∧ ad.block < w.heap.size ∧ w.cell? (ad.add (r * 2)) = some (.int .i64 x.head) ∧
      w.cell? ⟨(ad.add (r * 2)).block, (ad.add (r * 2)).off + 1, none⟩ = some (.slice (ca r) x.conj.length c)
  con : ∀ (r : Nat) (x : Rul) (k : Nat) (y : Conj), rules[r]? = some x → x.conj[k]? = some y → ∃ ad c, ca r = some ad ∧ ad.block < w.heap.size ∧ w.cell? (ad.add (k * 2)) = some (.bool y.neg) ∧
      w.cell? ⟨(ad.add (k * 2)).block, (ad.add (k * 2)).off + 1, none⟩ = some (.slice (sa r k) y.seq.length c)
  sym : ∀ (r : Nat) (x : Rul) (k : Nat) (y : Conj), rules[r]? = some x → x.conj[k]? = some y → symRd.C w (sa r k) y.seq
theorem RulesAt.mono {w w' : World} {ra : Option Addr} {ca : Nat → Option Addr} {sa : Nat → Nat → Option Addr} {rules : List Rul} (h : RulesAt w ra ca sa rules) (hb : Below w.heap.size w w') : RulesAt w' ra ca sa rules where
  rul r x hr := by
    obtain ⟨ad, c, h1, h2, h3, h4⟩ := h.rul r x hr
    exact ⟨ad, c, h1, Nat.lt_of_lt_of_le h2 hb.size, below_cell hb h3, below_cell hb h4⟩
  con r x k y hr hk := by
    obtain ⟨ad, c, h1, h2, h3, h4⟩ := h.con r x k y hr hk
    exact ⟨ad, c, h1, Nat.lt_of_lt_of_le h2 hb.size, below_cell hb h3, below_cell hb h4⟩
  sym r x k y hr hk := (h.sym r x k y hr hk).mono hb
theorem RulesAt.of {w : World} {ra : Option Addr} {rules : List Rul} (h : rulRd.C w ra rules) : ∃ ca sa, RulesAt w ra ca sa rules := by
  have h1 : ∀ r : Nat, ∃ A1 : Option Addr, ∀ x, rules[r]? = some x → ∃ ad c, ra = some ad ∧ ad.block < w.heap.size ∧ w.cell? (ad.add (r * 2)) = some (.int .i64 x.head) ∧
      w.cell? ⟨(ad.add (r * 2)).block, (ad.add (r * 2)).off + 1, none⟩ = some (.slice A1 x.conj.length c) ∧ conjRd.C w A1 x.conj := by
    intro r
    cases hr : rules[r]? with
    | none => exact ⟨none, fun x hx => by cases hx⟩
    | some x =>
      obtain ⟨ad, A1, c1, e1, e2, e3, e4, _, _, e5⟩ := rul_at h hr
      exact ⟨A1, fun y hy => by cases hy; exact ⟨ad, c1, e1, e2, e3, e4, e5⟩⟩
  obtain ⟨ca, hca⟩ := Classical.axiomOfChoice h1
  have h2 : ∀ r : Nat, ∃ f : Nat → Option Addr, ∀ (k : Nat) (x : Rul) (y : Conj), rules[r]? = some x → x.conj[k]? = some y → ∃ ad c, ca r = some ad ∧ ad.block < w.heap.size ∧ w.cell? (ad.add (k * 2)) = some (.bool y.neg) ∧
      w.cell? ⟨(ad.add (k * 2)).block, (ad.add (k * 2)).off + 1, none⟩ = some (.slice (f k) y.seq.length c) ∧ symRd.C w (f k) y.seq := by
    intro r
    have h3 : ∀ k : Nat, ∃ A1 : Option Addr, ∀ (x : Rul) (y : Conj), rules[r]? = some x → x.conj[k]? = some y → ∃ ad c, ca r = some ad ∧ ad.block < w.heap.size ∧ w.cell? (ad.add (k * 2)) = some (.bool y.neg) ∧
        w.cell? ⟨(ad.add (k * 2)).block, (ad.add (k * 2)).off + 1, none⟩ = some (.slice A1 y.seq.length c) ∧ symRd.C w A1 y.seq := by
      intro k
      cases hr : rules[r]? with
      | none => exact ⟨none, fun x y hx => by cases hx⟩
      | some x =>
        obtain ⟨_, _, _, _, _, _, hC⟩ := hca r x hr
        cases hk : x.conj[k]? with
        | none => exact ⟨none, fun x' y hx hy => by cases hx; rw [hk] at hy; cases hy⟩
        | some y =>
          obtain ⟨ad, A1, c1, e1, e2, e3, e4, _, _, e5⟩ := conj_at hC hk
          exact ⟨A1, fun x' y' hx hy => by cases hx; rw [hk] at hy; cases hy; exact ⟨ad, c1, e1, e2, e3, e4, e5⟩⟩
    obtain ⟨f, hf⟩ := Classical.axiomOfChoice h3
    exact ⟨f, fun k x y hx hy => hf k x y hx hy⟩
  obtain ⟨sa, hsa⟩ := Classical.axiomOfChoice h2
  refine ⟨ca, sa, ?_, ?_, ?_⟩
  · intro r x hr
    obtain ⟨ad, c, e1, e2, e3, e4, _⟩ := hca r x hr
    exact ⟨ad, c, e1, e2, e3, e4⟩
  · intro r x k y hr hk
    obtain ⟨ad, c, e1, e2, e3, e4, _⟩ := hsa r k x y hr hk
    exact ⟨ad, c, e1, e2, e3, e4⟩
  · intro r x k y hr hk
    obtain ⟨_, _, _, _, _, _, e5⟩ := hsa r k x y hr hk
    exact e5

theorem keep_set {w : World} {a b : Addr} {v u : Value} (h : w.cell? a = some v) (hne : b.block ≠ a.block) : (w.setCell b u).cell? a = some v := by
  rw [World.cell?_setCell_other _ _ _ _ (fun e => hne (by rw [e]))]
  exact h

/-- Only blocks of R, and new ones, have turned. -/
structure Upd (R : Nat → Prop) (w w' : World) : Prop where
  os : w'.os = w.os
  tape : w'.tape = w.tape
  output : w'.output = w.output
  size : w.heap.size ≤ w'.heap.size
  block : ∀ k, k < w.heap.size → ¬ R k → w'.heap[k]? = w.heap[k]?
theorem Upd.refl (R : Nat → Prop) (w : World) : Upd R w w := ⟨rfl, rfl, rfl, Nat.le_refl _, fun _ _ _ => rfl⟩
theorem Upd.trans {R : Nat → Prop} {a b c : World} (h : Upd R a b) (k : Upd R b c) : Upd R a c :=
  ⟨k.os.trans h.os, k.tape.trans h.tape, k.output.trans h.output, Nat.le_trans h.size k.size, fun i hi hn => (k.block i (Nat.lt_of_lt_of_le hi h.size) hn).trans (h.block i hi hn)⟩
theorem Upd.of_below {R : Nat → Prop} {a b : World} (h : Below a.heap.size a b) : Upd R a b := ⟨h.os, h.tape, h.output, h.size, fun k hk _ => h.block k hk⟩
theorem Upd.drew {R : Nat → Prop} {a b : World} (h : Upd R a b) : Upd R a b.drew := ⟨h.os, h.tape, h.output, h.size, h.block⟩
theorem Upd.drewN {R : Nat → Prop} {a b : World} (h : Upd R a b) (n : Nat) : Upd R a (b.drewN n) := ⟨h.os, h.tape, h.output, h.size, h.block⟩
theorem Upd.alloc {R : Nat → Prop} {a b : World} (h : Upd R a b) (o : Obj) : Upd R a (b.alloc o) := h.trans (Upd.of_below ((Below.refl _ _).alloc (Nat.le_refl _) o))
theorem Upd.setCell {R : Nat → Prop} {a b : World} (h : Upd R a b) {p : Addr} (hp : R p.block) (u : Value) : Upd R a (b.setCell p u) :=
  h.trans ⟨rfl, rfl, rfl, by simp [World.setCell], fun k hk hn => Below.heap_setCell _ _ _ _ (fun e => hn (e ▸ hp))⟩
theorem Upd.setNew {R : Nat → Prop} {a b : World} (h : Upd R a b) {p : Addr} (hp : a.heap.size ≤ p.block) (u : Value) : Upd R a (b.setCell p u) :=
  ⟨h.os, h.tape, h.output, by simpa [World.setCell] using h.size, fun k hk hn => (Below.heap_setCell _ _ _ _ (by omega)).trans (h.block k hk hn)⟩
theorem Upd.cell {R : Nat → Prop} {w w' : World} (h : Upd R w w') {a : Addr} {v : Value} (hc : w.cell? a = some v) (hn : ¬ R a.block) : w'.cell? a = some v :=
  (World.cell?_of_block (w := w) (h.block a.block (World.block_lt_of_cell? w a hc) hn)).trans hc
theorem Upd.mono {R R' : Nat → Prop} {w w' : World} (h : Upd R w w') (hr : ∀ k, R k → R' k) : Upd R' w w' :=
  ⟨h.os, h.tape, h.output, h.size, fun k hk hn => h.block k hk (fun x => hn (hr k x))⟩
/-- Where R speaks of none of the old blocks, nothing old has turned. -/
theorem Upd.below {R : Nat → Prop} {B : Nat} {w w' : World} (h : Upd R w w') (hB : B ≤ w.heap.size) (hr : ∀ k, R k → B ≤ k) : Below B w w' :=
  ⟨h.os, h.tape, h.output, h.size, fun k hk => h.block k (by omega) (fun x => by have := hr k x; omega)⟩
end Go.Proofs.Ytbidpeggdhkahaa
