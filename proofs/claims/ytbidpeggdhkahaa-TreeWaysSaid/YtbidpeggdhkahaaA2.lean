/-
  A2: slices that the call itself makes, element by element; append. No program in sight.
-/
import Derived.Test.YtbidpeggdhkahaaA1
import Derived.Maps.AppendAt
import Derived.Deep.AppendLies
import Derived.RegionTactic
import Derived.OwnWalk
import Derived.Laws.Tables
set_option linter.unusedSimpArgs false
set_option linter.unusedVariables false
namespace Go.Proofs.Ytbidpeggdhkahaa
open Go.RowKit

theorem below_alloc' {w W : World} (h : Below w.heap.size w W) (o : Obj) : Below w.heap.size w (W.alloc o) := h.alloc h.size o
theorem below_drew' {w W : World} (h : Below w.heap.size w W) : Below w.heap.size w W.drew := h.drew
theorem below_drewN' {w W : World} (h : Below w.heap.size w W) (n : Nat) : Below w.heap.size w (W.drewN n) := pw_below_drewN h n
theorem below_setNew {w W : World} (h : Below w.heap.size w W) {p : Addr} (hp : w.heap.size ≤ p.block) (u : Value) : Below w.heap.size w (W.setCell p u) := h.setCell hp u
theorem below_grown {w W W' : World} {row : Option Nat} (h : Below w.heap.size w W) (hg : W.grownBy W' row) (hr : ∀ k, row = some k → w.heap.size ≤ k) : Below w.heap.size w W' := h.grown hg h.size hr

/-- A slice of the call's own: its row lies from 'base' on, and what its elements lead to too, apart from the row. -/
def Own {α : Type} (d : Rd α) (e : TypeId) (base : Nat) (w : World) (v : Value) (xs : List α) : Prop :=
  ∃ css : List (List Value), css.length = xs.length ∧ w.ownsRow base e d.sz v xs.length css.flatten ∧
    ∀ (i : Nat) (x : α) (cs : List Value), xs[i]? = some x → css[i]? = some cs → ∀ w', Upd (fun b => b < base ∨ v.ownBlock = some b) w w' → d.K w' x cs

theorem Own.nil {α : Type} (d : Rd α) (e : TypeId) (base : Nat) (w : World) : Own d e base w (.slice none 0 0) [] :=
  ⟨[], rfl, World.ownsRow_nil _ _ _ _, fun i x cs h => by simp at h⟩
theorem ownsRow_upd {w w' : World} {base : Nat} {e : TypeId} {size n : Nat} {v : Value} {xs : List Value} {R : Nat → Prop} (h : w.ownsRow base e size v n xs) (hu : Upd R w w') (hr : ∀ b, v.ownBlock = some b → ¬ R b) : w'.ownsRow base e size v n xs := by
  obtain ⟨h1, h2⟩ := h
  refine ⟨h1, ?_⟩
  rcases h2 with h2 | ⟨g, cap, cur, rfl, hg, hh, r⟩
  · exact .inl h2
  · exact .inr ⟨g, cap, cur, rfl, hg, (hu.block g (Array.getElem?_eq_some_iff.1 hh).1 (hr g (by simp [Value.ownBlock]))).trans hh, r⟩
theorem Own.upd {α : Type} {d : Rd α} {e : TypeId} {base : Nat} {w w' : World} {v : Value} {xs : List α} {R : Nat → Prop} (h : Own d e base w v xs) (hu : Upd R w w') (hr : ∀ b, R b → b < base) : Own d e base w' v xs := by
  obtain ⟨css, h1, h2, h3⟩ := h
  refine ⟨css, h1, ownsRow_upd h2 hu (fun b hb x => ?_), fun i x cs hx hc w'' hu' => h3 i x cs hx hc w'' (Upd.trans (hu.mono (fun b hb => .inl (hr b hb))) hu')⟩
  have := (h2.lt b hb).1
  have := hr b x
  omega
theorem Own.below {α : Type} {d : Rd α} {e : TypeId} {base : Nat} {w w' : World} {v : Value} {xs : List α} (h : Own d e base w v xs) (hb : Below w.heap.size w w') : Own d e base w' v xs :=
  h.upd (R := fun _ => False) (Upd.of_below hb) (fun _ h => h.elim)
theorem Own.base {α : Type} {d : Rd α} {e : TypeId} {base : Nat} {w : World} {v : Value} {xs : List α} (h : Own d e base w v xs) {b : Nat} (hb : v.ownBlock = some b) : base ≤ b ∧ b < w.heap.size := by
  obtain ⟨css, h1, h2, h3⟩ := h
  exact h2.lt b hb

theorem flatten_get {css : List (List Value)} {sz : Nat} (hl : ∀ cs ∈ css, cs.length = sz) {i : Nat} {cs : List Value} (hc : css[i]? = some cs) {j : Nat} {u : Value} (hu : cs[j]? = some u) : css.flatten[i * sz + j]? = some u := by
  induction css generalizing i with
  | nil => simp at hc
  | cons c css ih =>
    have h0 : c.length = sz := hl c (by simp)
    cases i with
    | zero =>
      simp only [List.getElem?_cons_zero, Option.some.injEq] at hc
      subst hc
      have hj : j < c.length := (List.getElem?_eq_some_iff.1 hu).1
      rw [List.flatten_cons, Nat.zero_mul, Nat.zero_add, List.getElem?_append_left hj]
      exact hu
    | succ i =>
      simp only [List.getElem?_cons_succ] at hc
      rw [List.flatten_cons, List.getElem?_append_right (by rw [h0, Nat.add_mul]; omega), h0, show (i + 1) * sz + j - sz = i * sz + j by rw [Nat.add_mul]; omega]
      exact ih (fun cs hcs => hl cs (by simp [hcs])) hc

theorem maxLen_eq : maxLen = 9223372036854775807 := rfl
/-- An owned slice read. -/
theorem Own.rd {α : Type} {d : Rd α} {e : TypeId} {base : Nat} {w : World} {v : Value} {xs : List α} (h : Own d e base w v xs) : (Rd.sl d).K w xs [v] := by
  obtain ⟨css, h1, h2, h3⟩ := h
  have hl : ∀ cs ∈ css, cs.length = d.sz := by
    intro cs hcs
    obtain ⟨i, hi, hic⟩ := List.mem_iff_getElem.1 hcs
    have hx : xs[i]? = some (xs[i]'(by omega)) := List.getElem?_eq_getElem (by omega)
    exact d.len (h3 i _ cs hx (by rw [← hic]; exact List.getElem?_eq_getElem hi) w (Upd.refl _ _))
  have hC : ∀ A, (∃ n c, v = .slice A n c) → d.C w A xs := by
    rintro A ⟨n, c, rfl⟩ i x hx
    have hi : i < xs.length := (List.getElem?_eq_some_iff.1 hx).1
    have hc : css[i]? = some (css[i]'(by omega)) := List.getElem?_eq_getElem (by omega)
    generalize css[i]'(by omega) = cs at hc
    rcases h2.2 with ⟨hv, h0⟩ | ⟨g, cap, cur, hv, _⟩
    · omega
    · injection hv with hA
      subst hA
      refine ⟨_, cs, rfl, h3 i x cs hx hc w (Upd.refl _ _), fun j u hu => ?_⟩
      exact h2.cells (g := g) rfl _ u (flatten_get hl hc hu)
  rcases h2.2 with ⟨rfl, h0⟩ | ⟨g, cap, cur, rfl, hb, hh, h4, h5, h6, h7⟩
  · exact ⟨none, 0, by rw [h0], by omega, by omega, hC _ ⟨_, _, rfl⟩⟩
  · exact ⟨_, cap, rfl, h4, by rw [← maxLen_eq]; exact h5, hC _ ⟨_, _, rfl⟩⟩
theorem Own.shape {α : Type} {d : Rd α} {e : TypeId} {base : Nat} {w : World} {v : Value} {xs : List α} (h : Own d e base w v xs) : ∃ A c, v = .slice A xs.length c ∧ xs.length ≤ c ∧ c ≤ 9223372036854775807 ∧ d.C w A xs := by
  obtain ⟨A, c, e, h1, h2, h3⟩ := h.rd
  injection e with e
  exact ⟨A, c, e, h1, h2, h3⟩
/-- Its elements and its row stand still whatever turns below 'base'. -/
theorem Own.rd_upd {α : Type} {d : Rd α} {e : TypeId} {base : Nat} {w w' : World} {v : Value} {xs : List α} {R : Nat → Prop} (h : Own d e base w v xs) (hu : Upd R w w') (hr : ∀ b, R b → b < base) : (Rd.sl d).K w' xs [v] := (h.upd hu hr).rd

/-- What an append leaves. -/
theorem Own.appended {α : Type} {d : Rd α} {e : TypeId} {base : Nat} {w w1 : World} {v v1 : Value} {xs : List α} {ys : List α} {ncs : List (List Value)}
    (h : Own d e base w v xs) (hn : ncs.length = ys.length) (hy : ∀ (i : Nat) (x : α) (cs : List Value), ys[i]? = some x → ncs[i]? = some cs → ∀ w', Upd (fun b => b < base ∨ v.ownBlock = some b) w w' → d.K w' x cs)
    (hrow : ∀ css : List (List Value), css.length = xs.length → w.ownsRow base e d.sz v xs.length css.flatten → w1.ownsRow base e d.sz v1 (xs.length + ys.length) (css.flatten ++ ncs.flatten))
    (hg : w.grownBy w1 v.ownBlock) (hat : v1.ownBlock = v.ownBlock ∨ ∃ b, v1.ownBlock = some b ∧ w.heap.size ≤ b) : Own d e base w1 v1 (xs ++ ys) := by
  obtain ⟨css, h1, h2, h3⟩ := h
  refine ⟨css ++ ncs, by simp [h1, hn], by rw [List.length_append, List.flatten_append]; exact hrow css h1 h2, fun i x cs hx hc w' hu => ?_⟩
  have hu' : Upd (fun b => b < base ∨ v.ownBlock = some b) w w' := by
    refine ⟨hu.os.trans hg.os, hu.tape.trans hg.tape, hu.output.trans hg.output, Nat.le_trans hg.size hu.size, fun k hk hnk => ?_⟩
    have hk1 : w1.heap[k]? = w.heap[k]? := hg.block k hk (fun e => hnk (.inr e.symm))
    refine (hu.block k (Nat.lt_of_lt_of_le hk hg.size) ?_).trans hk1
    rintro (hb | hb)
    · exact hnk (.inl hb)
    · rcases hat with e | ⟨b, e, hle⟩
      · exact hnk (.inr (by rw [← e]; exact hb))
      · rw [e] at hb; injection hb with hb; omega
  by_cases hi : i < xs.length
  · rw [List.getElem?_append_left hi] at hx
    rw [List.getElem?_append_left (by omega)] at hc
    exact h3 i x cs hx hc w' hu'
  · rw [List.getElem?_append_right (by omega)] at hx
    rw [List.getElem?_append_right (by omega), h1] at hc
    exact hy _ x cs hx hc w' hu'

/-- Where the cells of new elements lie. -/
def Lies (w : World) (A : Option Addr) (cs : List Value) : Prop := cs = [] ∨ ∃ ad, A = some ad ∧ ∀ (j : Nat) (u : Value), cs[j]? = some u → w.cell? (ad.add j) = some u
theorem Lies.block {w : World} {b : Nat} {cs : Array Value} {t : TypeId} {fr : Nat × Nat} (hb : w.heap[b]? = some (.cells cs t fr)) : Lies w (some ⟨b, 0, none⟩) cs.toList :=
  .inr ⟨_, rfl, World.news_of_block hb⟩
section
variable {P : Program} {α : Type} {d : Rd α} {w : World}
theorem run_append_nil' (base : Nat) (t ty e : TypeId) (i : TypeInfo) (size : Nat) (ht : P.underlying t = some (.slice e)) (hi : P.info? e = some i)
    (v : Value) (n : Nat) (xs : List Value) (hown : w.ownsRow base e size v n xs) (c : Nat) : (Builtin.append_ #[t, t] ty #[v, .slice none 0 c]).run P w = .ok v w := by
  rcases hown.2 with ⟨rfl, rfl⟩ | ⟨g, cap, cur, rfl, _, _, hnc, _⟩
  · simp [Builtin.append_, run_underlying ht, sizeOf, typeInfo, hi, Builtin.lenOf, Builtin.firstCells]
  · simp [Builtin.append_, run_underlying ht, sizeOf, typeInfo, hi, Builtin.lenOf, Builtin.firstCells, hnc, storeCells]
theorem flatten_length {css : List (List Value)} {sz : Nat} (hl : ∀ cs ∈ css, cs.length = sz) : css.flatten.length = css.length * sz := by
  induction css with
  | nil => simp
  | cons c css ih => rw [List.flatten_cons, List.length_append, ih (fun cs h => hl cs (by simp [h])), hl c (by simp), List.length_cons, Nat.add_mul]; omega
/-- The built-in append onto a slice of the call's own. -/
theorem run_append_Own {base : Nat} {t ty e : TypeId} {z : Value} {bytes : Nat} (ht : P.underlying t = some (.slice e)) (hinfo : (P.info? e).map (fun i => (i.zero, i.size, i.bytes)) = some (some z, d.sz, bytes)) (hz : z.cells.size = d.sz) (hsz : 0 < d.sz)
    {v : Value} {xs ys : List α} {ncs : List (List Value)} (h : Own d e base w v xs) (hn : ncs.length = ys.length) (hl : ∀ cs ∈ ncs, cs.length = d.sz) (h1 : ∀ cs ∈ ncs, ∀ u ∈ cs, u.oneCell' = true)
    (hy : ∀ (i : Nat) (x : α) (cs : List Value), ys[i]? = some x → ncs[i]? = some cs → ∀ w', Upd (fun b => b < base ∨ v.ownBlock = some b) w w' → d.K w' x cs)
    {A : Option Addr} {c : Nat} (hA : Lies w A ncs.flatten) (hbytes : (xs.length + ys.length) * bytes ≤ 140737488355328) (hb0 : 0 < bytes) (hbase : base ≤ w.heap.size) :
    ∃ v1 w1, (Builtin.append_ #[t, t] ty #[v, .slice A ys.length c]).run P w = .ok v1 w1 ∧ Own d e base w1 v1 (xs ++ ys) ∧ w.grownBy w1 v.ownBlock ∧ (v1.ownBlock = v.ownBlock ∨ v1.ownBlock = some w.heap.size) := by
  obtain ⟨i0, hi, hzz⟩ := Option.map_eq_some_iff.1 hinfo
  simp only [Prod.mk.injEq] at hzz
  obtain ⟨hz0, hz1, hz2⟩ := hzz
  have hlen : xs.length + ys.length ≤ 140737488355328 := Nat.le_trans (Nat.le_mul_of_pos_right _ hb0) hbytes
  have hfl : ncs.flatten.length = ys.length * d.sz := by rw [flatten_length hl, hn]
  have h1' : ∀ u ∈ ncs.flatten, u.oneCell' = true := by
    intro u hu
    obtain ⟨cs, hcs, hu⟩ := List.mem_flatten.1 hu
    exact h1 cs hcs u hu
  obtain ⟨css, q1, q2, q3⟩ := id h
  cases A with
  | some ad =>
    have hcell : ∀ j u, ncs.flatten[j]? = some u → w.cell? (ad.add j) = some u := by
      rcases hA with h0 | ⟨ad', e', hc⟩
      · intro j u hu; rw [h0] at hu; simp at hu
      · injection e' with e'; subst e'; exact hc
    obtain ⟨v1, w1, hr, hown, hg, _, hat⟩ := run_append_own_at (P := P) w base t ty e i0 z d.sz bytes ht hi hz0 hz1 hz2 hz hsz v xs.length css.flatten q2 ad ys.length c ncs.flatten hfl hcell h1' (by rw [maxLen_eq]; omega) hbytes hbase
    refine ⟨v1, w1, hr, ?_, hg, hat⟩
    refine h.appended hn hy (fun css' e1 e2 => ?_) hg (hat.imp id (fun e => ⟨_, e, Nat.le_refl _⟩))
    obtain ⟨v2, w2, hr2, hown2, _⟩ := run_append_own_at (P := P) w base t ty e i0 z d.sz bytes ht hi hz0 hz1 hz2 hz hsz v xs.length css'.flatten e2 ad ys.length c ncs.flatten hfl hcell h1' (by rw [maxLen_eq]; omega) hbytes hbase
    rw [hr] at hr2
    injection hr2 with e3 e4
    rw [e3, e4]
    exact hown2
  | none =>
    have h0 : ncs.flatten = [] := by
      rcases hA with h0 | ⟨ad', e', _⟩
      · exact h0
      · cases e'
    have hy0 : ys.length = 0 := by
      have : ys.length * d.sz = 0 := by rw [← hfl, h0]; rfl
      rcases Nat.mul_eq_zero.1 this with h | h <;> omega
    have hys : ys = [] := List.eq_nil_of_length_eq_zero hy0
    subst hys
    exact ⟨v, w, run_append_nil' base t ty e i0 d.sz ht hi v xs.length css.flatten q2 c, by simpa using h, World.grownBy.refl w _, .inl rfl⟩

variable {ops : Array Oper} {rest : List Oper} {o : Oper} {a : Act} {K : Act → World → Prop} {Q : Exit → Act → World → Prop} {E : Prop}
theorem wp_append_Own {base : Nat} (s x : Operand) (t e : TypeId) (z : Value) (bytes : Nat) (ho : o.op = .call { callee := .builtin .append, args := #[s, x], argTypes := #[t, t] })
    (ht : P.underlying t = some (.slice e)) (hinfo : (P.info? e).map (fun i => (i.zero, i.size, i.bytes)) = some (some z, d.sz, bytes)) (hz : z.cells.size = d.sz) (hsz : 0 < d.sz)
    {v : Value} {xs ys : List α} {ncs : List (List Value)} (hs : a.eval s = v) (h : Own d e base w v xs) (hn : ncs.length = ys.length) (hl : ∀ cs ∈ ncs, cs.length = d.sz) (h1 : ∀ cs ∈ ncs, ∀ u ∈ cs, u.oneCell' = true)
    (hy : ∀ (i : Nat) (x : α) (cs : List Value), ys[i]? = some x → ncs[i]? = some cs → ∀ w', Upd (fun b => b < base ∨ v.ownBlock = some b) w w' → d.K w' x cs)
    {A : Option Addr} {c : Nat} (hx : a.eval x = .slice A ys.length c) (hA : Lies w A ncs.flatten) (hbytes : (xs.length + ys.length) * bytes ≤ 140737488355328) (hb0 : 0 < bytes) (hbase : base ≤ w.heap.size)
    (hK : ∀ v1 w1, Own d e base w1 v1 (xs ++ ys) → w.grownBy w1 v.ownBlock → (v1.ownBlock = v.ownBlock ∨ v1.ownBlock = some w.heap.size) → K (a.put o.dst v1) w1) : o.wp P a w K Q := by
  obtain ⟨v1, w1, hr, h2, h3, h4⟩ := run_append_Own (P := P) (ty := o.type) ht hinfo hz hsz h hn hl h1 hy hA (c := c) hbytes hb0 hbase
  unfold Oper.wp execOp
  simp only [ho, resolve, invoke, builtin, Sem.run_bind, Sem.run_pure, Result.andThen_ok, List.map_toArray, List.map_cons, List.map_nil, hs, hx, hr]
  exact hK v1 w1 h2 h3 h4
/-- One element, which the call has just laid in a block of its own (b). -/
theorem wp_append_one {base : Nat} (s x : Operand) (t e : TypeId) (z : Value) (bytes : Nat) (ho : o.op = .call { callee := .builtin .append, args := #[s, x], argTypes := #[t, t] })
    (ht : P.underlying t = some (.slice e)) (hinfo : (P.info? e).map (fun i => (i.zero, i.size, i.bytes)) = some (some z, d.sz, bytes)) (hz : z.cells.size = d.sz) (hsz : 0 < d.sz)
    {v : Value} {xs : List α} (hs : a.eval s = v) (h : Own d e base w v xs) (y : α) (cs : Array Value)
    (hy : ∀ w', Upd (fun b => b < base ∨ v.ownBlock = some b) w w' → d.K w' y cs.toList)
    {b c : Nat} {tb : TypeId} {fr : Nat × Nat} (hx : a.eval x = .slice (some ⟨b, 0, none⟩) 1 c) (hA : w.heap[b]? = some (.cells cs tb fr)) (hbytes : (xs.length + 1) * bytes ≤ 140737488355328) (hb0 : 0 < bytes) (hbase : base ≤ w.heap.size)
    (hK : ∀ v1 w1, Own d e base w1 v1 (xs ++ [y]) → w.grownBy w1 v.ownBlock → (v1.ownBlock = v.ownBlock ∨ v1.ownBlock = some w.heap.size) → K (a.put o.dst v1) w1) : o.wp P a w K Q := by
  have hK0 := hy w (Upd.refl _ _)
  refine wp_append_Own (d := d) (ys := [y]) (ncs := [cs.toList]) s x t e z bytes ho ht hinfo hz hsz hs h rfl (by simpa using d.len hK0) (by simpa using d.one hK0) ?_ (A := some ⟨b, 0, none⟩) (c := c) (by simpa using hx) (by simpa using Lies.block hA) (by simpa using hbytes) hb0 hbase hK
  intro i q cs' hq hc w' hu
  cases i with
  | zero => simp at hq hc; subst hq; subst hc; exact hy w' hu
  | succ i => simp at hq
theorem wpList_append_one (hgd : o.guard = none) {base : Nat} (s x : Operand) (t e : TypeId) (z : Value) (bytes : Nat) (ho : o.op = .call { callee := .builtin .append, args := #[s, x], argTypes := #[t, t] })
    (ht : P.underlying t = some (.slice e)) (hinfo : (P.info? e).map (fun i => (i.zero, i.size, i.bytes)) = some (some z, d.sz, bytes)) (hz : z.cells.size = d.sz) (hsz : 0 < d.sz)
    {v : Value} {xs : List α} (hs : a.eval s = v) (h : Own d e base w v xs) (y : α) (cs : Array Value)
    (hy : ∀ w', Upd (fun b => b < base ∨ v.ownBlock = some b) w w' → d.K w' y cs.toList)
    {b c : Nat} {tb : TypeId} {fr : Nat × Nat} (hx : a.eval x = .slice (some ⟨b, 0, none⟩) 1 c) (hA : w.heap[b]? = some (.cells cs tb fr)) (hbytes : (xs.length + 1) * bytes ≤ 140737488355328) (hb0 : 0 < bytes) (hbase : base ≤ w.heap.size)
    (hK : ∀ v1 w1, Own d e base w1 v1 (xs ++ [y]) → w.grownBy w1 v.ownBlock → (v1.ownBlock = v.ownBlock ∨ v1.ownBlock = some w.heap.size) → wpList P ops Q rest (a.put o.dst v1) w1) : wpList P ops Q (o :: rest) a w :=
  wpList_plain hgd fun K' hK' => wp_append_one (K := K') s x t e z bytes ho ht hinfo hz hsz hs h y cs hy hx hA hbytes hb0 hbase (fun v1 w1 h1 h2 h3 => hK' _ _ (hK v1 w1 h1 h2 h3))
theorem step_append_one (hgd : o.guard = none) {base : Nat} (s x : Operand) (t e : TypeId) (z : Value) (bytes : Nat) (ho : o.op = .call { callee := .builtin .append, args := #[s, x], argTypes := #[t, t] })
    (ht : P.underlying t = some (.slice e)) (hinfo : (P.info? e).map (fun i => (i.zero, i.size, i.bytes)) = some (some z, d.sz, bytes)) (hz : z.cells.size = d.sz) (hsz : 0 < d.sz)
    {v : Value} {xs : List α} (hs : a.eval s = v) (h : Own d e base w v xs) (y : α) (cs : Array Value)
    (hy : ∀ w', Upd (fun b => b < base ∨ v.ownBlock = some b) w w' → d.K w' y cs.toList)
    {b c : Nat} {tb : TypeId} {fr : Nat × Nat} (hx : a.eval x = .slice (some ⟨b, 0, none⟩) 1 c) (hA : w.heap[b]? = some (.cells cs tb fr)) (hbytes : (xs.length + 1) * bytes ≤ 140737488355328) (hb0 : 0 < bytes) (hbase : base ≤ w.heap.size)
    (hK : ∀ v1 w1, Own d e base w1 v1 (xs ++ [y]) → w.grownBy w1 v.ownBlock → (v1.ownBlock = v.ownBlock ∨ v1.ownBlock = some w.heap.size) → K (a.put o.dst v1) w1) :
    if Region.wanted o (yielded ops a.tmps) = true then Oper.wp P o a w K Q else E := by
  have hw : Region.wanted o (yielded ops a.tmps) = true := by simp [Region.wanted, hgd]
  rw [if_pos hw]
  exact wp_append_one s x t e z bytes ho ht hinfo hz hsz hs h y cs hy hx hA hbytes hb0 hbase hK

/-- A kind whose cells say all: no memory behind them. -/
def Flat (d : Rd α) : Prop := ∀ w w' x cs, d.K w x cs → d.K w' x cs
theorem C_cells {A : Option Addr} {ys : List α} (h : d.C w A ys) : ∃ ncs : List (List Value), ncs.length = ys.length ∧ (∀ (i : Nat) (x : α) (cs : List Value), ys[i]? = some x → ncs[i]? = some cs → d.K w x cs) ∧ Lies w A ncs.flatten := by
  have h1 : ∀ i : Nat, ∃ cs : List Value, ∀ x, ys[i]? = some x → ∃ ad, A = some ad ∧ d.K w x cs ∧ ∀ (j : Nat) (v : Value), cs[j]? = some v → w.cell? (ad.add (i * d.sz + j)) = some v := by
    intro i
    cases hx : ys[i]? with
    | none => exact ⟨[], fun x e => by cases e⟩
    | some x => obtain ⟨ad, cs, e1, e2, e3⟩ := h i x hx; exact ⟨cs, fun x' e => by cases e; exact ⟨ad, e1, e2, e3⟩⟩
  obtain ⟨f, hf⟩ := Classical.axiomOfChoice h1
  have hsz : ∀ cs ∈ (List.range ys.length).map f, cs.length = d.sz := by
    intro cs hcs
    obtain ⟨i, hi, rfl⟩ := List.mem_map.1 hcs
    rw [List.mem_range] at hi
    obtain ⟨ad, e1, e2, e3⟩ := hf i ys[i] (List.getElem?_eq_getElem hi)
    exact d.len e2
  refine ⟨(List.range ys.length).map f, by simp, ?_, ?_⟩
  · intro i x cs hx hc
    have hi : i < ys.length := (List.getElem?_eq_some_iff.1 hx).1
    rw [List.getElem?_map, List.getElem?_range hi] at hc
    simp only [Option.map_some, Option.some.injEq] at hc
    subst hc
    obtain ⟨ad, e1, e2, e3⟩ := hf i x hx
    exact e2
  · by_cases h0 : ys.length = 0
    · left; simp [h0]
    · right
      obtain ⟨ad, e1, e2, e3⟩ := hf 0 ys[0] (List.getElem?_eq_getElem (by omega))
      refine ⟨ad, e1, fun j u hu => ?_⟩
      by_cases hd : d.sz = 0
      · have hlt := (List.getElem?_eq_some_iff.1 hu).1
        rw [flatten_length hsz, hd] at hlt
        omega
      · have hlt : j < ys.length * d.sz := by
          have := (List.getElem?_eq_some_iff.1 hu).1
          rwa [flatten_length hsz, List.length_map, List.length_range] at this
        have hq : j / d.sz < ys.length := Nat.div_lt_of_lt_mul (by rw [Nat.mul_comm]; exact hlt)
        obtain ⟨ad', e1', e2', e3'⟩ := hf (j / d.sz) ys[j / d.sz] (List.getElem?_eq_getElem hq)
        have : ad' = ad := by rw [e1] at e1'; injection e1' with e; exact e.symm
        subst this
        have hm : j % d.sz < (f (j / d.sz)).length := by rw [d.len e2']; exact Nat.mod_lt _ (by omega)
        have hj : j / d.sz * d.sz + j % d.sz = j := by rw [Nat.mul_comm]; exact Nat.div_add_mod j d.sz
        have hfl := flatten_get hsz (i := j / d.sz) (cs := f (j / d.sz)) (by rw [List.getElem?_map, List.getElem?_range hq]; rfl) (j := j % d.sz) (List.getElem?_eq_getElem hm)
        rw [hj, hu] at hfl
        injection hfl with hfl
        have := e3' (j % d.sz) _ (List.getElem?_eq_getElem hm)
        rw [hj] at this
        rw [this, hfl]
/-- All elements of a slice that is read, of a flat kind. -/
theorem wp_append_flat {base : Nat} (s x : Operand) (t e : TypeId) (z : Value) (bytes : Nat) (ho : o.op = .call { callee := .builtin .append, args := #[s, x], argTypes := #[t, t] })
    (ht : P.underlying t = some (.slice e)) (hinfo : (P.info? e).map (fun i => (i.zero, i.size, i.bytes)) = some (some z, d.sz, bytes)) (hz : z.cells.size = d.sz) (hsz : 0 < d.sz)
    {v : Value} {xs ys : List α} (hs : a.eval s = v) (h : Own d e base w v xs) (hflat : Flat d)
    {A : Option Addr} {c : Nat} (hx : a.eval x = .slice A ys.length c) (hA : d.C w A ys) (hbytes : (xs.length + ys.length) * bytes ≤ 140737488355328) (hb0 : 0 < bytes) (hbase : base ≤ w.heap.size)
    (hK : ∀ v1 w1, Own d e base w1 v1 (xs ++ ys) → w.grownBy w1 v.ownBlock → (v1.ownBlock = v.ownBlock ∨ v1.ownBlock = some w.heap.size) → K (a.put o.dst v1) w1) : o.wp P a w K Q := by
  obtain ⟨ncs, e1, e2, e3⟩ := C_cells hA
  have hget : ∀ cs ∈ ncs, ∃ x, d.K w x cs := by
    intro cs hcs
    obtain ⟨i, hi, hic⟩ := List.mem_iff_getElem.1 hcs
    exact ⟨_, e2 i (ys[i]'(by omega)) cs (List.getElem?_eq_getElem (by omega)) (by rw [← hic]; exact List.getElem?_eq_getElem hi)⟩
  exact wp_append_Own s x t e z bytes ho ht hinfo hz hsz hs h e1 (fun cs hcs => let ⟨_, hk⟩ := hget cs hcs; d.len hk) (fun cs hcs => let ⟨_, hk⟩ := hget cs hcs; d.one hk)
    (fun i x cs hx hc w' _ => hflat w w' x cs (e2 i x cs hx hc)) hx e3 hbytes hb0 hbase hK
theorem wpList_append_flat (hgd : o.guard = none) {base : Nat} (s x : Operand) (t e : TypeId) (z : Value) (bytes : Nat) (ho : o.op = .call { callee := .builtin .append, args := #[s, x], argTypes := #[t, t] })
    (ht : P.underlying t = some (.slice e)) (hinfo : (P.info? e).map (fun i => (i.zero, i.size, i.bytes)) = some (some z, d.sz, bytes)) (hz : z.cells.size = d.sz) (hsz : 0 < d.sz)
    {v : Value} {xs ys : List α} (hs : a.eval s = v) (h : Own d e base w v xs) (hflat : Flat d)
    {A : Option Addr} {c : Nat} (hx : a.eval x = .slice A ys.length c) (hA : d.C w A ys) (hbytes : (xs.length + ys.length) * bytes ≤ 140737488355328) (hb0 : 0 < bytes) (hbase : base ≤ w.heap.size)
    (hK : ∀ v1 w1, Own d e base w1 v1 (xs ++ ys) → w.grownBy w1 v.ownBlock → (v1.ownBlock = v.ownBlock ∨ v1.ownBlock = some w.heap.size) → wpList P ops Q rest (a.put o.dst v1) w1) : wpList P ops Q (o :: rest) a w :=
  wpList_plain hgd fun K' hK' => wp_append_flat (K := K') s x t e z bytes ho ht hinfo hz hsz hs h hflat hx hA hbytes hb0 hbase (fun v1 w1 h1 h2 h3 => hK' _ _ (hK v1 w1 h1 h2 h3))
theorem step_append_flat (hgd : o.guard = none) {base : Nat} (s x : Operand) (t e : TypeId) (z : Value) (bytes : Nat) (ho : o.op = .call { callee := .builtin .append, args := #[s, x], argTypes := #[t, t] })
    (ht : P.underlying t = some (.slice e)) (hinfo : (P.info? e).map (fun i => (i.zero, i.size, i.bytes)) = some (some z, d.sz, bytes)) (hz : z.cells.size = d.sz) (hsz : 0 < d.sz)
    {v : Value} {xs ys : List α} (hs : a.eval s = v) (h : Own d e base w v xs) (hflat : Flat d)
    {A : Option Addr} {c : Nat} (hx : a.eval x = .slice A ys.length c) (hA : d.C w A ys) (hbytes : (xs.length + ys.length) * bytes ≤ 140737488355328) (hb0 : 0 < bytes) (hbase : base ≤ w.heap.size)
    (hK : ∀ v1 w1, Own d e base w1 v1 (xs ++ ys) → w.grownBy w1 v.ownBlock → (v1.ownBlock = v.ownBlock ∨ v1.ownBlock = some w.heap.size) → K (a.put o.dst v1) w1) :
    if Region.wanted o (yielded ops a.tmps) = true then Oper.wp P o a w K Q else E := by
  have hw : Region.wanted o (yielded ops a.tmps) = true := by simp [Region.wanted, hgd]
  rw [if_pos hw]
  exact wp_append_flat s x t e z bytes ho ht hinfo hz hsz hs h hflat hx hA hbytes hb0 hbase hK
end
section
variable {P : Program} {w : World} {ops : Array Oper} {rest : List Oper} {o : Oper} {a : Act} {K : Act → World → Prop} {Q : Exit → Act → World → Prop} {E : Prop}
theorem grownBy_setRow (w : World) (g : Nat) (cs : Array Value) : w.grownBy (w.setRow g cs) (some g) := ⟨rfl, rfl, rfl, by simp, fun k _ hne => setRow_other _ _ _ _ (fun e => hne (by rw [e]))⟩
/-- A struct stored into a block that is known whole. -/
theorem wp_store_blk (ty : TypeId) (x y : Operand) (ho : o.op = .store ty x y) (hd : o.dst = none) (g : Nat) (cells : Array Value) (hx : a.eval x = .pointer (some ⟨g, 0, none⟩)) (hy : a.eval y = .agg cells)
    {t : TypeId} {old : Array Value} (hg : w.heap[g]? = some (.cells old t (0, 0))) (hi : (P.info? ty).map (·.size) = some cells.size) (hold : old.size = cells.size) (h1 : cells.all (·.oneCell') = true)
    (hK : ∀ w2, w2.heap[g]? = some (.cells cells t (0, 0)) → w.grownBy w2 (some g) → w2.heap.size = w.heap.size → K a w2) : o.wp P a w K Q := by
  refine wp_store_row ty x y ho g cells hx hy t old hg hi hold h1 ?_
  rw [hd]
  exact hK _ (setRow_heap _ _ _ _ _ _ hg) (grownBy_setRow _ _ _) (by simp)
theorem step_store_blk (hgd : o.guard = none) (ty : TypeId) (x y : Operand) (ho : o.op = .store ty x y) (hd : o.dst = none) (g : Nat) (cells : Array Value) (hx : a.eval x = .pointer (some ⟨g, 0, none⟩)) (hy : a.eval y = .agg cells)
    {t : TypeId} {old : Array Value} (hg : w.heap[g]? = some (.cells old t (0, 0))) (hi : (P.info? ty).map (·.size) = some cells.size) (hold : old.size = cells.size) (h1 : cells.all (·.oneCell') = true)
    (hK : ∀ w2, w2.heap[g]? = some (.cells cells t (0, 0)) → w.grownBy w2 (some g) → w2.heap.size = w.heap.size → K (a.put o.dst undef) w2) : if Region.wanted o (yielded ops a.tmps) = true then Oper.wp P o a w K Q else E := by
  have hw : Region.wanted o (yielded ops a.tmps) = true := by simp [Region.wanted, hgd]
  rw [if_pos hw]
  exact wp_store_blk ty x y ho hd g cells hx hy hg hi hold h1 (fun w2 h1 h2 h3 => by have := hK w2 h1 h2 h3; rw [hd] at this; exact this)
theorem blk_cell {g : Nat} {t : TypeId} {cs : Array Value} (h : w.heap[g]? = some (.cells cs t (0, 0))) (i : Nat) : w.cell? ⟨g, i, none⟩ = cs[i]? := cell_of_row w g i cs t (0, 0) h
theorem blk_frozen {g : Nat} {t : TypeId} {cs : Array Value} (h : w.heap[g]? = some (.cells cs t (0, 0))) (i : Nat) : w.frozen? ⟨g, i, none⟩ = false := by simp [World.frozen?, h]
theorem blk_lt {g : Nat} {o : Obj} (h : w.heap[g]? = some o) : g < w.heap.size := (Array.getElem?_eq_some_iff.1 h).1
theorem blk_below {w1 : World} {g : Nat} {o : Obj} (h : w.heap[g]? = some o) (hb : Below w.heap.size w w1) : w1.heap[g]? = some o := (hb.block g (blk_lt h)).trans h
theorem blk_grown {w1 : World} {g : Nat} {o : Obj} {row : Option Nat} (h : w.heap[g]? = some o) (hg : w.grownBy w1 row) (hne : some g ≠ row) : w1.heap[g]? = some o := (hg.block g (blk_lt h) hne).trans h
theorem blk_set {g : Nat} {t : TypeId} {cs : Array Value} (h : w.heap[g]? = some (.cells cs t (0, 0))) (i : Nat) (u : Value) : (w.setCell ⟨g, i, none⟩ u).heap[g]? = some (.cells (cs.setIfInBounds i u) t (0, 0)) := by
  simp only [World.setCell, Array.getElem?_modify, h]; simp [Obj.cells]
end
theorem Upd.of_grown {w w' : World} {row : Option Nat} (hg : w.grownBy w' row) : Upd (fun b => row = some b) w w' := ⟨hg.os, hg.tape, hg.output, hg.size, fun k hk hn => hg.block k hk (fun e => hn e.symm)⟩
theorem Own.flat_upd {α : Type} {d : Rd α} {e : TypeId} {base : Nat} {w w' : World} {v : Value} {xs : List α} {R : Nat → Prop} (h : Own d e base w v xs) (hf : Flat d) (hu : Upd R w w') (hr : ∀ b, v.ownBlock = some b → ¬ R b) : Own d e base w' v xs := by
  obtain ⟨css, q1, q2, q3⟩ := h
  exact ⟨css, q1, ownsRow_upd q2 hu hr, fun i x cs hx hc w2 _ => hf _ _ _ _ (q3 i x cs hx hc w (Upd.refl _ _))⟩
theorem flat_int : Flat Rd.int := fun _ _ _ _ h => h
theorem flat_str : Flat Rd.str := fun _ _ _ _ h => h
theorem flat_sym : Flat symRd := fun _ w' x _ h => by rw [symRd_open h]; exact symRd_mk w' x
end Go.Proofs.Ytbidpeggdhkahaa
