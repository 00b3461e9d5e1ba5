/-
  Iq: a tree is gone through by its rules: plain. No program in sight.
-/
import Derived.Test.YtbidpeggdhkahaaIi
set_option linter.unusedSimpArgs false
set_option linter.unusedVariables false
namespace Go.Proofs.Ytbidpeggdhkahaa
open Go.RowKit

/-- All rules have one conjunct, and that is not negated. -/
def OneB (G : Gram) : Prop := ∀ (r : Nat) (x : Rul), G.rules[r]? = some x → ∃ y : Conj, x.conj = [y] ∧ y.neg = false
theorem drop_cons {α : Type} {bs : List α} {p : Nat} {a : α} {t : List α} (h : bs.drop p = a :: t) : bs[p]? = some a ∧ bs.drop (p + 1) = t := by
  constructor
  · have := congrArg (fun l => l[0]?) h
    simpa using this
  · rw [← List.tail_drop, h]; rfl
section
variable {R : Ky → Int} {G : Gram} {W : ByteArray}
/-- Where the way through a rule stands. -/
structure WkI (R : Ky → Int) (G : Gram) (W : ByteArray) (bs : List Brn) (k : Ky) (r : Nat) (y : Conj) (fin : Nat) (m : Nat) (i : Int) (at' : Nat) : Prop where
  hm : m ≤ y.seq.length
  pos : 0 < R (seqKey ⟨r, (0 : Nat), m⟩ i k.j)
  sub : ∀ a ∈ alongTo R G W (66 - m) (seqKey ⟨r, (0 : Nat), m⟩ i k.j), R a < R k
  drop : ∃ rest, bs.drop at' = (alongTo R G W (66 - m) (seqKey ⟨r, (0 : Nat), m⟩ i k.j)).flatMap (treeOf R G W) ++ rest
  len : at' + ((alongTo R G W (66 - m) (seqKey ⟨r, (0 : Nat), m⟩ i k.j)).flatMap (treeOf R G W)).length = fin
theorem wk_start (H : RkOK R G W) (O : OneB G) {k : Ky} (h : 0 < R k) (hk : k.kind = 0) {bs : List Brn} {p : Nat} (hd : ∃ rest, bs.drop p = treeOf R G W k ++ rest) :
    ∃ (r : Nat) (x : Rul) (y : Conj), G.rules[r]? = some x ∧ x.conj = [y] ∧ bs[p]? = some ⟨k.name, r, k.i, k.j, (beneathB R G W k).2.length⟩ ∧ WkI R G W bs k r y (p + (treeOf R G W k).length) 0 k.i (p + 1) := by
  obtain ⟨r, x, hx, hh, hH, hl, hp, hb, hall⟩ := beneath_ok H h hk
  obtain ⟨y, hy, hn⟩ := O r x hx
  obtain ⟨hd0, cj⟩ := x
  have hy : cj = [y] := hy
  subst hy
  have hb2 : (beneathB R G W k).2 = alongTo R G W 66 (ckey r 0 k) := by
    rw [hb]
    show [] ++ (if y.neg then [] else alongTo R G W 66 (ckey r 0 k)) = _
    rw [hn]
    rfl
  have ht := treeOf_eq H h hk
  obtain ⟨rest, hd⟩ := hd
  have hd' := hd
  rw [ht] at hd
  obtain ⟨e1, e2⟩ := drop_cons hd
  refine ⟨r, _, y, hx, rfl, ?_, ⟨Nat.zero_le _, ?_, ?_, ⟨rest, ?_⟩, ?_⟩⟩
  · rw [e1, brnOf]
    simp only [hb]
  · exact holdsK_at hH (c := 0) (y := y) rfl hn
  · intro a ha
    exact (hall a (by rw [hb2]; exact ha)).2.2.1
  · rw [e2, hb2]; rfl
  · rw [ht, List.length_cons, hb2]
    show p + 1 + ((alongTo R G W 66 (ckey r 0 k)).flatMap (treeOf R G W)).length = _
    omega
theorem wk_sym {x : Rul} {y : Conj} {r m : Nat} (hx : G.rules[r]? = some x) (hy : x.conj = [y]) : symOf G ⟨r, (0 : Nat), m⟩ = y.seq[m]? := symOf_at (c := 0) hx (by rw [hy]; rfl)
theorem wk_byte (H : RkOK R G W) {x : Rul} {y : Conj} {r : Nat} (hx : G.rules[r]? = some x) (hy : x.conj = [y]) (hl : y.seq.length ≤ 64) {bs : List Brn} {k : Ky} {fin m : Nat} {i : Int} {at' : Nat} (I : WkI R G W bs k r y fin m i at') {s : Sym} (hs : y.seq[m]? = some s) (hn : s.name < 0) :
    0 ≤ i ∧ i < k.j ∧ k.j ≤ W.size ∧ s.lo ≤ btz W i ∧ btz W i ≤ s.hi ∧ WkI R G W bs k r y fin (m + 1) (i + 1) at' := by
  have hlt := (List.getElem?_eq_some_iff.1 hs).1
  obtain ⟨s0, s1, s2⟩ := H.span _ I.pos
  obtain ⟨g1, g2, g3, g4, g5⟩ := along_byte H I.pos (by simp [seqKey]) ((wk_sym hx hy).trans hs) hn
  have e : 66 - m = (66 - (m + 1)) + 1 := by omega
  have e5 : alongTo R G W (66 - m) (seqKey ⟨r, (0 : Nat), m⟩ i k.j) = alongTo R G W (66 - (m + 1)) (seqKey ⟨r, (0 : Nat), (m + 1 : Nat)⟩ (i + 1) k.j) := by
    rw [e]; exact g5 _
  refine ⟨s0, g1, s2, g2, g3, hlt, g4, ?_, ?_, ?_⟩
  · rw [← e5]; exact I.sub
  · rw [← e5]; exact I.drop
  · rw [← e5]; exact I.len
theorem wk_name (H : RkOK R G W) {x : Rul} {y : Conj} {r : Nat} (hx : G.rules[r]? = some x) (hy : x.conj = [y]) (hl : y.seq.length ≤ 64) {bs : List Brn} {k : Ky} {fin m : Nat} {i : Int} {at' : Nat} (I : WkI R G W bs k r y fin m i at') {s : Sym} (hs : y.seq[m]? = some s) (hn : 0 ≤ s.name) :
    ∃ z : Int, 0 ≤ z ∧ 0 < R (nameKey s.name i z) ∧ R (nameKey s.name i z) < R k ∧ (∃ b, bs[at']? = some b ∧ b.name = s.name ∧ b.i = i) ∧ (∃ rest, bs.drop at' = treeOf R G W (nameKey s.name i z) ++ rest) ∧ WkI R G W bs k r y fin (m + 1) z (at' + (treeOf R G W (nameKey s.name i z)).length) := by
  have hlt := (List.getElem?_eq_some_iff.1 hs).1
  obtain ⟨s0, s1, s2⟩ := H.span _ I.pos
  have s0 : 0 ≤ i := s0
  obtain ⟨z, f1, f2, f3, f4, -, f5⟩ := along_split H I.pos (by simp [seqKey]) ((wk_sym hx hy).trans hs) hn
  have f1 : i ≤ z := f1
  have e : 66 - m = (66 - (m + 1)) + 1 := by omega
  have e5 : alongTo R G W (66 - m) (seqKey ⟨r, (0 : Nat), m⟩ i k.j) = nameKey s.name i z :: alongTo R G W (66 - (m + 1)) (seqKey ⟨r, (0 : Nat), (m + 1 : Nat)⟩ z k.j) := by
    rw [e]; exact f5 _
  obtain ⟨rest, hd⟩ := I.drop
  rw [e5, List.flatMap_cons, List.append_assoc] at hd
  have hd2 := hd
  have ht := treeOf_eq H f3 rfl
  have ht : treeOf R G W (nameKey s.name i z) = brnOf R G W (nameKey s.name i z) :: _ := ht
  rw [ht, List.cons_append] at hd2
  obtain ⟨e1, -⟩ := drop_cons hd2
  refine ⟨z, by omega, f3, I.sub _ (by rw [e5]; exact List.mem_cons_self), ⟨_, e1, rfl, rfl⟩, ⟨_, hd⟩, hlt, f4, ?_, ⟨rest, ?_⟩, ?_⟩
  · intro a ha
    exact I.sub a (by rw [e5]; exact List.mem_cons_of_mem _ ha)
  · rw [← List.drop_drop, hd, List.drop_left]
  · have := I.len
    rw [e5, List.flatMap_cons, List.length_append] at this
    omega
theorem wk_end (H : RkOK R G W) {x : Rul} {y : Conj} {r : Nat} (hx : G.rules[r]? = some x) (hy : x.conj = [y]) {bs : List Brn} {k : Ky} {fin m : Nat} {i : Int} {at' : Nat} (I : WkI R G W bs k r y fin m i at') (hm : m = y.seq.length) : i = k.j ∧ at' = fin := by
  obtain ⟨e1, e2⟩ := along_end H I.pos (by simp [seqKey]) ((wk_sym hx hy).trans (List.getElem?_eq_none_iff.2 (by omega)))
  refine ⟨e1, ?_⟩
  have := I.len
  rw [e2] at this
  simpa using this
end
end Go.Proofs.Ytbidpeggdhkahaa
