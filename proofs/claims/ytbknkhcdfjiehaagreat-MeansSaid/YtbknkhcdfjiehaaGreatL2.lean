/-
  L2: an argument that is a grammar, opened with the sizes of its slices.
-/
import Derived.Test.YtbknkhcdfjiehaaGreatL1
import Derived.Test.YtbknkhcdfjiehaaGreatC1
set_option linter.unusedSimpArgs false
set_option linter.unusedVariables false
namespace Go.Proofs.YtbknkhcdfjiehaaGreat
open Go.ChangeShapes Go.WideShapes Go.ChangeAt Go.RowKit

section
variable {H : Type} {enc : TypeId × Value → H} {P : Program}
/-- What is read at the type t lies as d says, and, being sized, fulfils Z. -/
def OpensZ (enc : TypeId × Value → H) (P : Program) {α : Type} (d : Rd α) (t : TypeId) (Z : α → Prop) : Prop :=
  P.cellsOf t = d.sz ∧ ∀ (w : World) (base : Nat) (spare : Nat → Bool) (held : Bool) (fuel : Nat) (cs : List Value) (x : DataW H × List MemPlace), DataW.trod enc P w base spare held fuel t cs = some x → (∀ n ∈ x.1.weights P t, n ≤ reachBytes) → ∃ y : α, d.K w y cs ∧ Z y
theorem opensZ_of {α : Type} {d : Rd α} {t : TypeId} (h : Opens enc P d t) : OpensZ enc P d t (fun _ => True) :=
  ⟨h.1, fun w base spare held fuel cs x hx _ => let ⟨y, hy⟩ := h.2 w base spare held fuel cs x hx; ⟨y, hy, trivial⟩⟩
theorem weights_all {e : TypeId} : ∀ {l : List (DataW H)} {d : DataW H}, d ∈ l → ∀ n ∈ d.weights P e, n ∈ DataW.weightsAll P e l := by
  intro l
  induction l with
  | nil => intro d h; cases h
  | cons a l ih =>
    intro d h n hn
    simp only [DataW.weightsAll, List.mem_append]
    rcases List.mem_cons.1 h with rfl | h
    · exact .inl hn
    · exact .inr (ih h n hn)
theorem opensZ_sl {t e : TypeId} {α : Type} {d : Rd α} {Z : α → Prop} {b : Nat} (ht : P.underlying t = some (.slice e)) (hc : P.cellsOf t = 1) (hb : P.bytesOf e = b) (he : OpensZ enc P d e Z) : OpensZ enc P (Rd.sl d) t (fun ys => ys.length * b ≤ reachBytes ∧ ∀ y ∈ ys, Z y) := by
  refine ⟨hc, fun w base spare held fuel cs x h hw => ?_⟩
  rcases Go.Deep.open_slice ht h with ⟨rfl, -⟩ | ⟨a, len, cap, m, n, D, Pl, rfl, -, hl, hm, rfl, hxx, hx⟩
  · exact ⟨[], ⟨none, 0, rfl, Nat.le_refl _, by decide, Rd.C.nil d w none⟩, by simp, fun y hy => by cases hy⟩
  · have hlen : len ≤ (if spare a.block then cap else len) := by split <;> omega
    rw [hxx] at hw
    simp only [DataW.weights, ht, List.mem_cons, List.mem_append] at hw
    have hw0 := hw _ (.inl rfl)
    have hw1 : ∀ i, i < len → ∀ n ∈ (D i).weights P e, n ≤ reachBytes := fun i hi n hn => hw n (.inr (.inl (weights_all (List.mem_map.2 ⟨i, List.mem_range.2 hi, rfl⟩) n hn)))
    obtain ⟨ys, hy, hq⟩ := choose_list (q := fun i y => (∃ cs', d.K w y cs' ∧ ∀ (j : Nat) (v : Value), cs'[j]? = some v → w.cell? (a.add (i * d.sz + j)) = some v) ∧ Z y) len (fun i hi => by
      obtain ⟨cs', h1, h2⟩ := hx i (by omega)
      obtain ⟨y, hy, hZ⟩ := he.2 w base spare held n cs' _ h2 (hw1 i hi)
      obtain ⟨-, hlen', hcell⟩ := World.cells?_some h1
      refine ⟨y, ⟨cs', hy, fun j v hv => ?_⟩, hZ⟩
      have hj : j < P.cellsOf e := by rw [← hlen']; exact (List.getElem?_eq_some_iff.1 hv).1
      have := hcell j hj
      rw [addr_add_add, he.1] at this
      rw [this, hv])
    subst hy
    refine ⟨ys, ⟨some a, cap, rfl, hl, by unfold maxLen at hm; omega, fun i y hy => by obtain ⟨⟨cs', h1, h2⟩, -⟩ := hq i y hy; exact ⟨a, cs', rfl, h1, h2⟩⟩, ?_, fun y hy => ?_⟩
    · simp only [List.length_map, List.length_range] at hw0
      rw [hb] at hw0
      exact Nat.le_trans (Nat.mul_le_mul_right _ (Nat.le_add_right _ _)) hw0
    · obtain ⟨i, hi⟩ := List.getElem?_of_mem hy
      exact (hq i y hi).2
theorem opensZ_pair {t : TypeId} {α β : Type} {a : Rd α} {b : Rd β} {Za : α → Prop} {Zb : β → Prop} {f0 f1 : Field} (ht : P.underlying t = some (.struct #[f0, f1])) (hc : P.cellsOf t = a.sz + b.sz) (h0 : f0.offset = 0) (h1 : f1.offset = a.sz) (ha : OpensZ enc P a f0.type Za) (hb : OpensZ enc P b f1.type Zb) :
    OpensZ enc P (Rd.pair a b) t (fun y => Za y.1 ∧ Zb y.2) := by
  refine ⟨hc, fun w base spare held fuel cs x h hw => ?_⟩
  obtain ⟨y0, y1, n, hxx, hl, e0, e1⟩ := trod_struct2 ht h
  rw [hxx] at hw
  simp only [DataW.weights, ht, DataW.weightsEach, List.map_cons, List.map_nil, List.append_nil, List.mem_append] at hw
  rw [h0, ha.1, List.drop_zero] at e0
  rw [h1, hb.1] at e1
  obtain ⟨u, hu, zu⟩ := ha.2 _ _ _ _ _ _ _ e0 (fun n hn => hw n (.inl hn))
  obtain ⟨v, hv, zv⟩ := hb.2 _ _ _ _ _ _ _ e1 (fun n hn => hw n (.inr hn))
  refine ⟨(u, v), ⟨_, _, ?_, hu, hv⟩, zu, zv⟩
  rw [List.take_of_length_le (l := cs.drop a.sz) (by simp; omega), List.take_append_drop]
theorem opensZ_trip {t : TypeId} {α β γ : Type} {a : Rd α} {b : Rd β} {c : Rd γ} {Za : α → Prop} {Zb : β → Prop} {Zc : γ → Prop} {f0 f1 f2 : Field} (ht : P.underlying t = some (.struct #[f0, f1, f2])) (hc : P.cellsOf t = a.sz + (b.sz + c.sz)) (h0 : f0.offset = 0) (h1 : f1.offset = a.sz) (h2 : f2.offset = a.sz + b.sz)
    (ha : OpensZ enc P a f0.type Za) (hb : OpensZ enc P b f1.type Zb) (hcc : OpensZ enc P c f2.type Zc) : OpensZ enc P (Rd.pair a (Rd.pair b c)) t (fun y => Za y.1 ∧ Zb y.2.1 ∧ Zc y.2.2) := by
  refine ⟨hc, fun w base spare held fuel cs x h hw => ?_⟩
  obtain ⟨y0, y1, y2, n, hxx, hl, e0, e1, e2⟩ := Go.Deep.trod_struct3 ht h
  rw [hxx] at hw
  simp only [DataW.weights, ht, DataW.weightsEach, List.map_cons, List.map_nil, List.append_nil, List.mem_append] at hw
  rw [h0, ha.1, List.drop_zero] at e0
  rw [h1, hb.1] at e1
  rw [h2, hcc.1] at e2
  obtain ⟨u, hu, zu⟩ := ha.2 _ _ _ _ _ _ _ e0 (fun n hn => hw n (.inl hn))
  obtain ⟨v, hv, zv⟩ := hb.2 _ _ _ _ _ _ _ e1 (fun n hn => hw n (.inr (.inl hn)))
  obtain ⟨z, hz, zz⟩ := hcc.2 _ _ _ _ _ _ _ e2 (fun n hn => hw n (.inr (.inr hn)))
  refine ⟨(u, v, z), ⟨_, _, ?_, hu, _, _, rfl, hv, hz⟩, zu, zv, zz⟩
  rw [List.take_of_length_le (l := cs.drop (a.sz + b.sz)) (by simp; omega), ← List.drop_drop, List.take_append_drop, List.take_append_drop]
theorem opensZ_iso {t : TypeId} {α β : Type} {d : Rd α} {f : β → α} {Z : α → Prop} (g : α → β) (hf : ∀ x, f (g x) = x) (h : OpensZ enc P d t Z) : OpensZ enc P (Rd.iso d f) t (fun y => Z (f y)) :=
  ⟨h.1, fun w base spare held fuel cs x hx hw => by
    obtain ⟨y, hy, hz⟩ := h.2 _ _ _ _ _ _ _ hx hw
    refine ⟨g y, ?_, ?_⟩
    · show d.K w (f (g y)) cs
      rw [hf]; exact hy
    · show Z (f (g y))
      rw [hf]; exact hz⟩
end
theorem opensZ_gram {H : Type} (enc : TypeId × Value → H) : OpensZ enc Tryz.prog gramRd 25 Holdable := by
  have i3 : OpensZ enc Tryz.prog Rd.int 3 (fun _ => True) := opensZ_of (opens_int Tryz.underlying3 (by kernel_rfl))
  have i4 : OpensZ enc Tryz.prog Rd.bool 4 (fun _ => True) := opensZ_of (opens_bool Tryz.underlying4 (by kernel_rfl))
  have i9 : OpensZ enc Tryz.prog Rd.str 9 (fun _ => True) := opensZ_of (opens_str Tryz.underlying9 (by kernel_rfl))
  have s44 := opensZ_iso (f := fun x : Sym => (x.name, x.lo, x.hi)) (fun x => (⟨x.1, x.2.1, x.2.2⟩ : Sym)) (fun _ => rfl) (opensZ_trip Tryz.underlying94 (by kernel_rfl) rfl rfl rfl i3 i3 i3)
  have s45 := opensZ_sl (b := 24) Tryz.underlying51 (by kernel_rfl) (by kernel_rfl) s44
  have s48 := opensZ_iso (f := fun x : Conj => (x.neg, x.seq)) (fun x => (⟨x.1, x.2⟩ : Conj)) (fun _ => rfl) (opensZ_pair Tryz.underlying53 (by kernel_rfl) rfl rfl i4 s45)
  have s49 := opensZ_sl (b := 32) Tryz.underlying48 (by kernel_rfl) (by kernel_rfl) s48
  have s53 := opensZ_iso (f := fun x : Rul => (x.head, x.conj)) (fun x => (⟨x.1, x.2⟩ : Rul)) (fun _ => rfl) (opensZ_pair Tryz.underlying50 (by kernel_rfl) rfl rfl i3 s49)
  have s23 := opensZ_sl (b := 32) Tryz.underlying23 (by kernel_rfl) (by kernel_rfl) s53
  have s22 := opensZ_sl (b := 16) Tryz.underlying22 (by kernel_rfl) (by kernel_rfl) i9
  have s25 := opensZ_iso (f := fun x : Gram => (x.start, x.names, x.rules)) (fun x => (⟨x.1, x.2.1, x.2.2⟩ : Gram)) (fun _ => rfl) (opensZ_trip Tryz.underlying25 (by kernel_rfl) rfl rfl rfl i3 s22 s23)
  refine ⟨s25.1, fun w base spare held fuel cs x hx hw => ?_⟩
  obtain ⟨y, hy, hz⟩ := s25.2 w base spare held fuel cs x hx hw
  obtain ⟨-, h1, h2⟩ := hz
  exact ⟨y, hy, h1.1, h2.1, fun x hx => (h2.2 x hx).2.1, fun x hx z hz => ((h2.2 x hx).2.2 z hz).2.1⟩

set_option maxRecDepth 100000 in
/-- A grammar among the arguments, sized. -/
theorem gram_openZ {H : Type} {enc : TypeId × Value → H} {w : World} {b0 base : Nat} {r : Reach} {spare : Nat → Bool} {held : Bool} {v : Value} {d : DataW H} {ps : List MemPlace} (hval : Value.okWide Tryz.prog w r b0 25 v) (h : DataW.Trod enc Tryz.prog w base spare held 25 v d ps) (hw : ∀ n ∈ d.weights Tryz.prog 25, n ≤ reachBytes) :
    ∃ (G : Gram) (A : Option Addr) (c : Nat) (A' : Option Addr) (c' : Nat), v = .agg #[.int .i64 G.start, .slice A G.names.length c, .slice A' G.rules.length c'] ∧ G.names.length ≤ c ∧ c ≤ 9223372036854775807 ∧ Rd.str.C w A G.names ∧ G.rules.length ≤ c' ∧ c' ≤ 9223372036854775807 ∧ rulRd.C w A' G.rules ∧ Holdable G := by
  obtain ⟨cs, rfl, -⟩ := okWide_struct Tryz.underlying25 hval
  obtain ⟨fuel, hf⟩ := h
  obtain ⟨G, hG, hZ⟩ := (opensZ_gram enc).2 _ _ _ _ _ _ _ hf hw
  obtain ⟨A, c, A', c', e, h1, h2, h3, h4, h5, h6⟩ := gramRd_open hG
  refine ⟨G, A, c, A', c', ?_, h1, h2, h3, h4, h5, h6, hZ⟩
  have e' : cs.toList = [.int .i64 G.start, .slice A G.names.length c, .slice A' G.rules.length c'] := e
  rw [← Array.toArray_toList (xs := cs), e']
end Go.Proofs.YtbknkhcdfjiehaaGreat
