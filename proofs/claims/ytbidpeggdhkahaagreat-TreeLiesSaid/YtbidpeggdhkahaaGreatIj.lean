/-
  Ii: ranks from below (what holds has a rank); the names along a conjunct, step by step: plain. No program in sight.
  Ij: the tree of a row of 'a's (the grammar that templelaw22's awake asks): plain. No program in sight.
-/
import Derived.Test.YtbidpeggdhkahaaGreatI2
import Derived.Test.YtbidpeggdhkahaaGreatI3
import Derived.Test.YtbidpeggdhkahaaGreatG4
set_option linter.unusedSimpArgs false
set_option linter.unusedVariables false
namespace Go.Proofs.YtbidpeggdhkahaaGreat
open Go.RowKit

/-- What holds has a rank. -/
structure RkC (R : Ky → Int) (G : Gram) (W : ByteArray) : Prop where
  fin : ∀ (r c : Nat) (x : Rul) (y : Conj) (i : Int), G.rules[r]? = some x → x.conj[c]? = some y → 0 ≤ i → i ≤ W.size → 0 < R (seqKey ⟨r, c, y.seq.length⟩ i i)
  byte : ∀ (r c q : Nat) (x : Rul) (y : Conj) (s : Sym) (i j : Int), G.rules[r]? = some x → x.conj[c]? = some y → y.seq[q]? = some s → s.name < 0 → 0 ≤ i → i < j → j ≤ W.size → s.lo ≤ btz W i → btz W i ≤ s.hi → 0 < R (seqKey ⟨r, c, (q + 1 : Nat)⟩ (i + 1) j) → 0 < R (seqKey ⟨r, c, q⟩ i j)
  split : ∀ (r c q : Nat) (x : Rul) (y : Conj) (s : Sym) (i a j : Int), G.rules[r]? = some x → x.conj[c]? = some y → y.seq[q]? = some s → 0 ≤ s.name → 0 ≤ i → i ≤ a → a ≤ j → j ≤ W.size → 0 < R (nameKey s.name i a) → 0 < R (seqKey ⟨r, c, (q + 1 : Nat)⟩ a j) → 0 < R (seqKey ⟨r, c, q⟩ i j)
  name : ∀ (r : Nat) (x : Rul) (i j : Int), G.rules[r]? = some x → 0 ≤ i → i ≤ j → j ≤ W.size → (∀ (c : Nat) (y : Conj), x.conj[c]? = some y → (decide (0 < R (seqKey ⟨r, c, 0⟩ i j)) != y.neg) = true) → 0 < R (nameKey x.head i j)
theorem rkC {G : Gram} {W : ByteArray} {N : Rk} {P : Nat → Nat → Nat → Int → Int → Int} (M : MayG G) (V : View G.rules G.names.length (fun i => btz W i) W.size N P) : RkC (rankV G W N P) G W := by
  refine ⟨fun r c x y i hx hy i0 i1 => ?_, fun r c q x y s i j hx hy hs hn i0 ij j1 h1 h2 h3 => ?_, fun r c q x y s i a j hx hy hs hn i0 ia aj j1 h1 h2 => ?_, fun r x i j hx i0 ij j1 h => ?_⟩
  · rw [rankV_seq hx hy (Nat.le_refl _) i0 (Int.le_refl _) i1, V.pEnd r x c y i i hx hy i0 (Int.le_refl _) i1, if_pos rfl]
    decide
  · have hq := (List.getElem?_eq_some_iff.1 hs).1
    rw [rankV_seq hx hy hq (by omega) (by omega) j1] at h3
    have h3 : 0 < P r c (q + 1) (i + 1) j := h3
    rw [rankV_seq hx hy (by omega) i0 (by omega) j1, V.pByte r x c y q s i j hx hy hs hn i0 (by omega) j1, if_pos ⟨ij, h1, h2, h3⟩]
    omega
  · have hq := (List.getElem?_eq_some_iff.1 hs).1
    have hsn := symB_lt (M.sym r x c y q s hx hy hs) (by have := M.K1; omega)
    rw [rankV_seq hx hy hq (by omega) (by omega) j1] at h2
    have h2 : 0 < P r c (q + 1) a j := h2
    rw [rankV_name (nm := s.name.toNat) (i := i) (j := a) (by omega) i0 ia (by omega) _ rfl (by simp only [nameKey]; omega) rfl rfl] at h1
    rw [rankV_seq hx hy (by omega) i0 (by omega) j1]
    have hb := V.pName r x c y q s i j hx hy hs hn i0 (by omega) j1
    exact (hb.le (a - i).toNat (by omega) (by rw [show i + ((a - i).toNat : Int) = a by omega]; exact h1) (by rw [show i + ((a - i).toNat : Int) = a by omega]; exact h2)).1
  · have hh := M.head r x hx
    rw [rankV_name (nm := x.head.toNat) (i := i) (j := j) (by omega) i0 ij j1 _ rfl (by simp only [nameKey]; omega) rfl rfl]
    refine (V.nLe r x i j hx (by omega) i0 ij j1 fun c y hc hy => ?_).1
    have := h c y hy
    have e := rankV_seq (N := N) (P := P) (W := W) (q := 0) hx hy (Nat.zero_le _) i0 ij j1
    rw [show ((0 : Nat) : Int) = 0 from rfl] at e
    rw [e] at this
    cases hd : decide (0 < P r c 0 i j) <;> cases hn : y.neg <;> simp_all
section
variable {R : Ky → Int} {G : Gram} {W : ByteArray}
theorem along_end (H : RkOK R G W) {k : Ky} (h : 0 < R k) (hk : k.kind ≠ 0) (hs : symOf G k.plc = none) : k.i = k.j ∧ ∀ n, alongTo R G W n k = [] := by
  rcases seq_pick H h hk with ⟨-, h1, e⟩ | ⟨s, hs', -⟩ | ⟨s, _, hs', -⟩
  · refine ⟨h1, fun n => ?_⟩
    cases n with
    | zero => rfl
    | succ n => simp only [alongTo, e]
  · rw [hs] at hs'; cases hs'
  · rw [hs] at hs'; cases hs'
theorem along_byte (H : RkOK R G W) {k : Ky} {s : Sym} (h : 0 < R k) (hk : k.kind ≠ 0) (hs : symOf G k.plc = some s) (hn : s.name < 0) :
    k.i < k.j ∧ s.lo ≤ btz W k.i ∧ btz W k.i ≤ s.hi ∧ 0 < R (seqKey (onP k.plc) (k.i + 1) k.j) ∧ ∀ n, alongTo R G W (n + 1) k = alongTo R G W n (seqKey (onP k.plc) (k.i + 1) k.j) := by
  rcases seq_pick H h hk with ⟨hs', -⟩ | ⟨s', hs', -, h1, h2, h3, h4, -, e⟩ | ⟨s', _, hs', hn', -⟩
  · rw [hs] at hs'; cases hs'
  · rw [hs] at hs'; injection hs' with hs'; subst hs'
    exact ⟨h1, h2, h3, h4, fun n => by simp only [alongTo, e]⟩
  · rw [hs] at hs'; injection hs' with hs'; subst hs'; omega
theorem along_split (H : RkOK R G W) {k : Ky} {s : Sym} (h : 0 < R k) (hk : k.kind ≠ 0) (hs : symOf G k.plc = some s) (hn : 0 ≤ s.name) :
    ∃ at', k.i ≤ at' ∧ at' ≤ k.j ∧ 0 < R (nameKey s.name k.i at') ∧ 0 < R (seqKey (onP k.plc) at' k.j) ∧ R (nameKey s.name k.i at') < R k ∧ ∀ n, alongTo R G W (n + 1) k = nameKey s.name k.i at' :: alongTo R G W n (seqKey (onP k.plc) at' k.j) := by
  rcases seq_pick H h hk with ⟨hs', -⟩ | ⟨s', hs', hn', -⟩ | ⟨s', at', hs', -, h1, h2, h3, h4, h5, -, e⟩
  · rw [hs] at hs'; cases hs'
  · rw [hs] at hs'; injection hs' with hs'; subst hs'; omega
  · rw [hs] at hs'; injection hs' with hs'; subst hs'
    exact ⟨at', h1, h2, h3, h4, h5, fun n => by simp only [alongTo, e]⟩
end
/-- A grammar without negations is no cycle through one. -/
theorem no_neg {G : Gram} (h : ∀ x ∈ G.rules, ∀ y ∈ x.conj, y.neg = false) : ¬ NegCyc (edgesOf G) := by
  rintro ⟨e, he, h1, -⟩
  obtain ⟨x, hx, y, hy, s, hs, -, rfl⟩ := mem_edgesOf.1 he
  rw [h x hx y hy] at h1
  cases h1
end Go.Proofs.YtbidpeggdhkahaaGreat

set_option linter.unusedSimpArgs false
set_option linter.unusedVariables false
namespace Go.Proofs.YtbidpeggdhkahaaGreat
open Go.RowKit

def sA : Sym := ⟨-1, 97, 97⟩
def sS : Sym := ⟨0, 0, 0⟩
def nmSS : ByteArray := ⟨#[83]⟩
/-- S → 'a' S | "". -/
def gA : Gram := ⟨0, [nmSS], [⟨0, [⟨false, [sA, sS]⟩]⟩, ⟨0, [⟨false, []⟩]⟩]⟩
theorem gA_may : mayB gA = true := by decide +kernel
theorem gA_ref : ¬ RefG gA := by
  rintro (h | h)
  · rw [gA_may] at h; cases h
  · refine no_neg ?_ h
    decide
section
variable {R : Ky → Int} {W : ByteArray}
/-- What stands beneath a name's span. -/
theorem gA_ben (H : RkOK R gA W) {i j : Int} (h : 0 < R (nameKey 0 i j)) : (i < j ∧ btz W i = 97 ∧ 0 < R (nameKey 0 (i + 1) j) ∧ beneathB R gA W (nameKey 0 i j) = (0, [nameKey 0 (i + 1) j])) ∨ (i = j ∧ beneathB R gA W (nameKey 0 i j) = (1, [])) := by
  obtain ⟨r, x, hx, -, hH, -, -, hb, -⟩ := beneath_ok H h rfl
  match r, hx, hH, hb with
  | 0, hx, hH, hb =>
    have hx : some (⟨0, [⟨false, [sA, sS]⟩]⟩ : Rul) = some x := hx
    injection hx with hx
    subst hx
    have h0 := holdsK_at hH (c := 0) (y := ⟨false, [sA, sS]⟩) rfl rfl
    obtain ⟨g1, g2, g3, g4, g5⟩ := along_byte H (s := sA) h0 (by simp [ckey, seqKey]) rfl (by decide)
    obtain ⟨at', f1, f2, f3, f4, -, f5⟩ := along_split H (s := sS) g4 (by simp [seqKey]) rfl (by decide)
    obtain ⟨e1, e2⟩ := along_end H f4 (by simp [seqKey]) rfl
    have e1 : at' = j := e1
    subst e1
    refine .inl ⟨g1, ?_, f3, ?_⟩
    · have g2 : (97 : Int) ≤ btz W i := g2
      have g3 : btz W i ≤ 97 := g3
      omega
    · rw [hb]
      show ((0 : Int), [] ++ alongTo R gA W (65 + 1) (ckey 0 0 (nameKey 0 i at'))) = _
      rw [g5, f5, e2]
      rfl
  | 1, hx, hH, hb =>
    have hx : some (⟨0, [⟨false, []⟩]⟩ : Rul) = some x := hx
    injection hx with hx
    subst hx
    have h0 := holdsK_at hH (c := 0) (y := ⟨false, []⟩) rfl rfl
    obtain ⟨e1, e2⟩ := along_end H h0 (by simp [ckey, seqKey]) rfl
    refine .inr ⟨e1, ?_⟩
    rw [hb]
    show ((1 : Int), [] ++ alongTo R gA W 66 (ckey 1 0 (nameKey 0 i j))) = _
    rw [e2]
    rfl
  | r + 2, hx, _, _ => simp [gA] at hx
theorem gA_has0 (C : RkC R gA W) {i : Int} (h0 : 0 ≤ i) (h1 : i ≤ W.size) : 0 < R (nameKey 0 i i) := by
  refine C.name 1 ⟨0, [⟨false, []⟩]⟩ i i rfl h0 (Int.le_refl _) h1 fun c y hy => ?_
  match c, hy with
  | 0, hy =>
    have hy : some (⟨false, []⟩ : Conj) = some y := hy
    injection hy with hy
    subst hy
    have := C.fin 1 0 ⟨0, [⟨false, []⟩]⟩ ⟨false, []⟩ i rfl rfl h0 h1
    simpa using this
  | c + 1, hy => simp at hy
theorem gA_has (C : RkC R gA W) {i j : Int} (h0 : 0 ≤ i) (h1 : i < j) (h2 : j ≤ W.size) (hb : btz W i = 97) (h : 0 < R (nameKey 0 (i + 1) j)) : 0 < R (nameKey 0 i j) := by
  refine C.name 0 ⟨0, [⟨false, [sA, sS]⟩]⟩ i j rfl h0 (by omega) h2 fun c y hy => ?_
  match c, hy with
  | 0, hy =>
    have hy : some (⟨false, [sA, sS]⟩ : Conj) = some y := hy
    injection hy with hy
    subst hy
    have e3 := C.fin 0 0 _ ⟨false, [sA, sS]⟩ j rfl rfl (by omega) h2
    have e2 := C.split 0 0 1 _ ⟨false, [sA, sS]⟩ sS (i + 1) j j rfl rfl rfl (by decide) (by omega) (by omega) (Int.le_refl _) h2 h e3
    have e1 := C.byte 0 0 0 _ ⟨false, [sA, sS]⟩ sA i j rfl rfl rfl (by decide) h0 h1 h2 (by show (97 : Int) ≤ btz W i; omega) (by show btz W i ≤ 97; omega) e2
    have e1 : 0 < R (seqKey ⟨(0 : Nat), (0 : Nat), 0⟩ i j) := e1
    simpa using e1
  | c + 1, hy => simp at hy
end
def wAA : ByteArray := ⟨#[97, 97]⟩
def wB : ByteArray := ⟨#[98]⟩
theorem gA_tree {R : Ky → Int} (H : RkOK R gA wAA) (C : RkC R gA wAA) : 0 < R (nameKey gA.start 0 wAA.size) ∧ firstGo R gA wAA 4098 [] [nameKey gA.start 0 wAA.size] = some [⟨0, 0, 0, 2, 1⟩, ⟨0, 0, 1, 2, 1⟩, ⟨0, 1, 2, 2, 0⟩] := by
  have p2 := gA_has0 C (i := 2) (by decide) (by decide)
  have p1 := gA_has C (i := 1) (j := 2) (by decide) (by decide) (by decide) (by decide) p2
  have p0 := gA_has C (i := 0) (j := 2) (by decide) (by decide) (by decide) (by decide) p1
  have b2 := gA_ben H p2
  have b1 := gA_ben H p1
  have b0 := gA_ben H p0
  have b2 : beneathB R gA wAA (nameKey 0 2 2) = (1, []) := b2.elim (fun h => absurd h.1 (by decide)) (fun h => h.2)
  have b1 : beneathB R gA wAA (nameKey 0 1 2) = (0, [nameKey 0 2 2]) := b1.elim (fun h => h.2.2.2) (fun h => absurd h.1 (by decide))
  have b0 : beneathB R gA wAA (nameKey 0 0 2) = (0, [nameKey 0 1 2]) := b0.elim (fun h => h.2.2.2) (fun h => absurd h.1 (by decide))
  have t2 : treeOf R gA wAA (nameKey 0 2 2) = [⟨0, 1, 2, 2, 0⟩] := by rw [treeOf_eq H p2 rfl, brnOf, b2]; rfl
  have t1 : treeOf R gA wAA (nameKey 0 1 2) = [⟨0, 0, 1, 2, 1⟩, ⟨0, 1, 2, 2, 0⟩] := by rw [treeOf_eq H p1 rfl, brnOf, b1, List.flatMap_cons, t2]; rfl
  have t0 : treeOf R gA wAA (nameKey 0 0 2) = [⟨0, 0, 0, 2, 1⟩, ⟨0, 0, 1, 2, 1⟩, ⟨0, 1, 2, 2, 0⟩] := by rw [treeOf_eq H p0 rfl, brnOf, b0, List.flatMap_cons, t1]; rfl
  have hf : [nameKey 0 0 2].flatMap (treeOf R gA wAA) = [⟨0, 0, 0, 2, 1⟩, ⟨0, 0, 1, 2, 1⟩, ⟨0, 1, 2, 2, 0⟩] := by rw [List.flatMap_cons, t0]; rfl
  refine ⟨p0, ?_⟩
  have := firstGo_some H 4098 [] [nameKey 0 0 2] (fun q hq => by simp at hq; rw [hq]; exact ⟨rfl, p0⟩) (by rw [hf]; decide) (by rw [hf]; decide)
  rw [hf] at this
  exact this
theorem gA_none {R : Ky → Int} (H : RkOK R gA wB) : R (nameKey gA.start 0 wB.size) = 0 := by
  have h0 := H.lo (nameKey gA.start 0 wB.size)
  by_cases h : 0 < R (nameKey gA.start 0 wB.size)
  · exfalso
    rcases gA_ben H (i := 0) (j := 1) h with ⟨-, h2, -⟩ | ⟨h2, -⟩
    · revert h2; decide
    · revert h2; decide
  · omega
def g00 : Gram := ⟨0, [], []⟩
theorem g00_ref : RefG g00 := .inl (by decide +kernel)
end Go.Proofs.YtbidpeggdhkahaaGreat
