/-
  Z4: rows that stand still while blocks of one type are written.
-/
import Derived.Test.YtfmfoiecphhhiaaZ2
import Derived.Test.YtfmfoiecphhhiaaZ3
set_option linter.unusedSimpArgs false
set_option linter.unusedVariables false
namespace Go.Proofs.Ytfmfoiecphhhiaa
open Go.RowKit

/-- A block of this type. -/
def TyS (e : TypeId) (w : World) (b : Nat) : Prop := ∃ cur, w.heap[b]? = some (.cells cur e (0, 0))
def UpdT (e : TypeId) (w w' : World) : Prop := Upd (TyS e w) w w'
theorem TyS.lt {e : TypeId} {w : World} {b : Nat} (h : TyS e w b) : b < w.heap.size := by
  obtain ⟨cur, h⟩ := h
  exact blk_lt h
theorem TyS.congr {e : TypeId} {w w' : World} {b : Nat} (h : TyS e w b) (he : w'.heap[b]? = w.heap[b]?) : TyS e w' b := by
  obtain ⟨cur, h⟩ := h
  exact ⟨cur, he.trans h⟩
theorem UpdT.refl (e : TypeId) (w : World) : UpdT e w w := Upd.refl _ _
theorem UpdT.after {e : TypeId} {a b c : World} (h : Below a.heap.size a b) (k : UpdT e b c) : UpdT e a c :=
  ⟨k.os.trans h.os, k.tape.trans h.tape, k.output.trans h.output, Nat.le_trans h.size k.size, fun i hi hn =>
    (k.block i (Nat.lt_of_lt_of_le hi h.size) (fun hb => hn (hb.congr (h.block i hi).symm))).trans (h.block i hi)⟩
/-- Elements that stand still while blocks of the type e are written. -/
def tyRd {α : Type} (e : TypeId) (d : Rd α) : Rd α where
  sz := d.sz
  K w x cs := ∀ w', UpdT e w w' → d.K w' x cs
  len h := d.len (h _ (UpdT.refl _ _))
  one h := d.one (h _ (UpdT.refl _ _))
  mono hb h := fun w' hu => h w' (UpdT.after hb hu)
theorem tyRd.C {α : Type} {e : TypeId} {d : Rd α} {w : World} {A : Option Addr} {xs : List α} (h : (tyRd e d).C w A xs) : d.C w A xs := fun i x hx => by
  obtain ⟨ad, cs, e1, hK, hc⟩ := h i x hx
  exact ⟨ad, cs, e1, hK w (UpdT.refl _ _), hc⟩
open Classical in
/-- The blocks of T as they were. -/
noncomputable def patchT (T : Nat → Prop) (w w3 : World) : World := { w3 with heap := Array.ofFn (n := w3.heap.size) (fun i => if T i.1 then (w.heap[i.1]?).getD w3.heap[i] else w3.heap[i]) }
theorem patchT_size (T : Nat → Prop) (w w3 : World) : (patchT T w w3).heap.size = w3.heap.size := by simp [patchT]
theorem patchT_other {T : Nat → Prop} {w w3 : World} {k : Nat} (h : ¬ T k) : (patchT T w w3).heap[k]? = w3.heap[k]? := by
  unfold patchT
  simp only
  by_cases hk : k < w3.heap.size
  · rw [Array.getElem?_eq_getElem (by simpa using hk), Array.getElem?_eq_getElem hk]
    simp [h]
  · rw [Array.getElem?_eq_none (by simpa using hk), Array.getElem?_eq_none (by omega)]
theorem patchT_same {T : Nat → Prop} {w w3 : World} {k : Nat} (h : T k) (hk : k < w.heap.size) (hs : w.heap.size ≤ w3.heap.size) : (patchT T w w3).heap[k]? = w.heap[k]? := by
  unfold patchT
  simp only
  rw [Array.getElem?_eq_getElem (by simp; omega), Array.getElem?_eq_getElem hk]
  simp [h, hk]
theorem own_ty {α : Type} {e e2 : TypeId} {d : Rd α} {base b0 : Nat} {w w1 : World} {v : Value} {xs : List α} (h : Own (tyRd e d) e2 base w v xs) (hu : Upd (fun k => k = b0) w w1) (h0 : TyS e w b0) (hb : v.ownBlock ≠ some b0) : Own (tyRd e d) e2 base w1 v xs := by
  obtain ⟨css, q1, q2, q3⟩ := h
  refine ⟨css, q1, ownsRow_upd q2 hu (fun k hk (e : k = b0) => hb (e ▸ hk)), fun i x cs hx hc w2 hu2 w3 hu3 => ?_⟩
  have hs : w.heap.size ≤ w3.heap.size := Nat.le_trans hu.size (Nat.le_trans hu2.size hu3.size)
  have hkeep : ∀ k, k < w.heap.size → ¬ TyS e w k → w1.heap[k]? = w.heap[k]? := fun k hk hn => hu.block k hk (fun e1 => hn (e1 ▸ h0))
  refine q3 i x cs hx hc (patchT (fun k => TyS e w k ∧ ¬ (k < base ∨ v.ownBlock = some k)) w w3) ⟨hu3.os.trans (hu2.os.trans hu.os), hu3.tape.trans (hu2.tape.trans hu.tape), hu3.output.trans (hu2.output.trans hu.output), by rw [patchT_size]; exact hs, fun k hk hn => ?_⟩ w3 ⟨rfl, rfl, rfl, by rw [patchT_size]; exact Nat.le_refl _, fun k hk hn => ?_⟩
  · by_cases hT : TyS e w k
    · exact patchT_same ⟨hT, hn⟩ hk hs
    · rw [patchT_other (fun h => hT h.1)]
      have e1 := hkeep k hk hT
      have e2 := hu2.block k (Nat.lt_of_lt_of_le hk hu.size) hn
      exact (hu3.block k (Nat.lt_of_lt_of_le hk (Nat.le_trans hu.size hu2.size)) (fun h => hT (h.congr (e2.trans e1).symm))).trans (e2.trans e1)
  · by_cases hT : TyS e w k ∧ ¬ (k < base ∨ v.ownBlock = some k)
    · exact absurd (hT.1.congr (patchT_same hT hT.1.lt hs)) hn
    · exact (patchT_other hT).symm
/-- The like where a row of that type has grown. -/
theorem own_ty_grown {α β : Type} {e e2 : TypeId} {d : Rd α} {d2 : Rd β} {base base2 : Nat} {w w1 : World} {v v2 : Value} {xs : List α} {ys : List β} (h : Own (tyRd e d) e2 base w v xs) (h2 : Own d2 e base2 w v2 ys) (hg : w.grownBy w1 v2.ownBlock) (hb : ∀ b, v2.ownBlock = some b → v.ownBlock ≠ some b) : Own (tyRd e d) e2 base w1 v xs := by
  cases hv : v2.ownBlock with
  | none =>
    rw [hv] at hg
    exact h.below (below_grown (below_refl w) hg (fun k hk => by cases hk))
  | some b0 =>
    obtain ⟨cur, hc⟩ := own_block_type h2 hv
    exact own_ty h ((Upd.of_grown hg).mono (fun k hk => by rw [hv] at hk; injection hk with hk; exact hk.symm)) ⟨cur, hc⟩ (hb b0 hv)

/-! Several elements appended at once. -/
section
variable {P : Program} {α : Type} {d : Rd α} {w : World} {ops : Array Oper} {o : Oper} {a : Act} {K : Act → World → Prop} {Q : Exit → Act → World → Prop} {E : Prop}
theorem step_append_list (hgd : o.guard = none) {base : Nat} (s x : Operand) (t e : TypeId) (z : Value) (bytes : Nat) (ho : o.op = .call { callee := .builtin .append, args := #[s, x], argTypes := #[t, t] })
    (ht : P.underlying t = some (.slice e)) (hinfo : (P.info? e).map (fun i => (i.zero, i.size, i.bytes)) = some (some z, d.sz, bytes)) (hz : z.cells.size = d.sz) (hsz : 0 < d.sz)
    {v : Value} {xs : List α} (hs : a.eval s = v) (h : Own d e base w v xs) (ys : List α) (ncs : List (List Value)) (hn : ncs.length = ys.length)
    (hy : ∀ (i : Nat) (x : α) (cs : List Value), ys[i]? = some x → ncs[i]? = some cs → ∀ w', Upd (fun b => b < base ∨ v.ownBlock = some b) w w' → d.K w' x cs)
    {b c : Nat} {tb : TypeId} {fr : Nat × Nat} {arr : Array Value} (hx : a.eval x = .slice (some ⟨b, 0, none⟩) ys.length c) (hA : w.heap[b]? = some (.cells arr tb fr)) (harr : arr.toList = ncs.flatten) (hbytes : (xs.length + ys.length) * bytes ≤ 140737488355328) (hb0 : 0 < bytes) (hbase : base ≤ w.heap.size)
    (hK : ∀ v1 w1, Own d e base w1 v1 (xs ++ ys) → w.grownBy w1 v.ownBlock → (v1.ownBlock = v.ownBlock ∨ v1.ownBlock = some w.heap.size) → K (a.put o.dst v1) w1) :
    if Region.wanted o (yielded ops a.tmps) = true then Oper.wp P o a w K Q else E := by
  have hw : Region.wanted o (yielded ops a.tmps) = true := by simp [Region.wanted, hgd]
  rw [if_pos hw]
  have hget : ∀ cs ∈ ncs, ∃ x, d.K w x cs := by
    intro cs hcs
    obtain ⟨i, hi, hic⟩ := List.mem_iff_getElem.1 hcs
    exact ⟨_, hy i (ys[i]'(by omega)) cs (List.getElem?_eq_getElem (by omega)) (by rw [← hic]; exact List.getElem?_eq_getElem hi) w (Upd.refl _ _)⟩
  exact wp_append_Own s x t e z bytes ho ht hinfo hz hsz hs h hn (fun cs hcs => let ⟨_, hk⟩ := hget cs hcs; d.len hk) (fun cs hcs => let ⟨_, hk⟩ := hget cs hcs; d.one hk) hy hx (by rw [← harr]; exact Lies.block hA) hbytes hb0 hbase hK
end
section
variable (w : World) (o0 o1 o2 o3 o4 : Obj)
theorem al5_b : Below w.heap.size w (((((w.alloc o0).alloc o1).alloc o2).alloc o3).alloc o4) := below_alloc' (below_alloc' (below_alloc' (below_alloc' (below_alloc' (below_refl w) o0) o1) o2) o3) o4
theorem al5_0 : (((((w.alloc o0).alloc o1).alloc o2).alloc o3).alloc o4).heap[w.heap.size]? = some o0 := by
  rw [(below_alloc' (below_alloc' (below_alloc' (below_alloc' (below_refl (w.alloc o0)) o1) o2) o3) o4).block w.heap.size (by simp)]; exact heap_alloc_new w _
theorem al5_1 : (((((w.alloc o0).alloc o1).alloc o2).alloc o3).alloc o4).heap[w.heap.size + 1]? = some o1 := by
  rw [(below_alloc' (below_alloc' (below_alloc' (below_refl ((w.alloc o0).alloc o1)) o2) o3) o4).block (w.heap.size + 1) (by simp)]; exact heap_alloc2_new w _ _
theorem al5_2 : (((((w.alloc o0).alloc o1).alloc o2).alloc o3).alloc o4).heap[w.heap.size + 2]? = some o2 := by
  rw [(below_alloc' (below_alloc' (below_refl (((w.alloc o0).alloc o1).alloc o2)) o3) o4).block (w.heap.size + 2) (by simp)]
  have h := heap_alloc_new ((w.alloc o0).alloc o1) o2
  simpa using h
theorem al5_3 : (((((w.alloc o0).alloc o1).alloc o2).alloc o3).alloc o4).heap[w.heap.size + 3]? = some o3 := by
  rw [(below_alloc' (below_refl ((((w.alloc o0).alloc o1).alloc o2).alloc o3)) o4).block (w.heap.size + 3) (by simp)]
  have h := heap_alloc_new (((w.alloc o0).alloc o1).alloc o2) o3
  simpa using h
theorem al5_4 : (((((w.alloc o0).alloc o1).alloc o2).alloc o3).alloc o4).heap[w.heap.size + 4]? = some o4 := by
  have h := heap_alloc_new ((((w.alloc o0).alloc o1).alloc o2).alloc o3) o4
  simpa using h
theorem al5_s : (((((w.alloc o0).alloc o1).alloc o2).alloc o3).alloc o4).heap.size = w.heap.size + 5 := by simp
end
theorem nodT_hy {S : Nat → Prop} {W : World} {p q : Nat} {x : Nod} {sp cj : Int} {kids : List Int} {arr : Array Value} {n : Nat} (hx : x.picks = [⟨sp, cj, kids⟩]) (hn : n = kids.length) (hn8 : n ≤ 8) (h0 : W.heap[p]? = some (.cells arr 3 (0, 0))) (ha : arr.toList = kids.map (fun z => .int .i64 z)) (h1 : W.heap[q]? = some (.cells #[.int .i64 sp, .int .i64 cj, .slice (some ⟨p, 0, none⟩) n n] 51 (0, 0)))
    (hp : ¬ S p) (hq : ¬ S q) : ∀ w', Upd S W w' → (tyRd 37 nodRd).K w' x (nodCs x (.slice (some ⟨q, 0, none⟩) 1 1)) := fun w' hu w'' hu2 => by
  have a0 := (hu.block p (blk_lt h0) hp).trans h0
  have a1 := (hu.block q (blk_lt h1) hq).trans h1
  have hne : ∀ {b : Nat} {cs : Array Value} {e' : TypeId}, w'.heap[b]? = some (.cells cs e' (0, 0)) → e' ≠ 37 → ¬ TyS 37 w' b := fun h hh => by
    rintro ⟨cur, hc⟩
    rw [h] at hc
    injection hc with hc
    injection hc with _ hc
    exact hh hc
  have c0 := (hu2.block p (blk_lt a0) (hne a0 (by decide))).trans a0
  have c1 := (hu2.block q (blk_lt a1) (hne a1 (by decide))).trans a1
  have d0 : Rd.int.C w'' (some ⟨p, 0, none⟩) kids := fun i z hz => ⟨⟨p, 0, none⟩, [.int .i64 z], rfl, rfl, fun j u hj => by
    cases j with
    | zero =>
      simp at hj
      subst hj
      rw [show i * Rd.int.sz + 0 = i from Nat.mul_one i, add_plain, Nat.zero_add, blk_cell c0, ← Array.getElem?_toList, ha, List.getElem?_map, hz]
      rfl
    | succ j => simp at hj⟩
  subst hn
  have d1 : pckRd.C w'' (some ⟨q, 0, none⟩) [⟨sp, cj, kids⟩] := C_blk [[.int .i64 sp, .int .i64 cj, .slice (some ⟨p, 0, none⟩) kids.length kids.length]] c1 rfl ⟨⟨pckRd_mk (x := ⟨sp, cj, kids⟩) (Nat.le_refl _) (by omega) d0, rfl⟩, trivial⟩
  have := nodRd_mk (w := w'') (x := x) (A := some ⟨q, 0, none⟩) (c := 1) (by rw [hx]; exact Nat.le_refl _) (by decide) (by rw [hx]; exact d1)
  rw [hx] at this
  exact this
theorem nodT_hy0 {S : Nat → Prop} {W : World} {x : Nod} (hx : x.picks = []) : ∀ w', Upd S W w' → (tyRd 37 nodRd).K w' x (nodCs x (.slice none 0 0)) := fun w' _ w'' _ => by
  have := nodRd_mk (w := w'') (x := x) (A := none) (c := 0) (by rw [hx]; exact Nat.le_refl _) (by decide) (by rw [hx]; exact Rd.C.nil _ _ _)
  rw [hx] at this
  exact this
end Go.Proofs.Ytfmfoiecphhhiaa
