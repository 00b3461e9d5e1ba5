/-
  Ij: the tree of a row of 'a's (the grammar that templelaw22's awake asks): plain. No program in sight.
-/
import Derived.Test.YtbidpeggdhkahaaIi
import Derived.Test.YtbidpeggdhkahaaG4
set_option linter.unusedSimpArgs false
set_option linter.unusedVariables false
namespace Go.Proofs.Ytbidpeggdhkahaa
open Go.RowKit

def sA : Sym := ⟨-1, 97, 97⟩
def sS : Sym := ⟨0, 0, 0⟩
def nmSS : ByteArray := ⟨#[83]⟩
/-- S → 'a' S | "". -/
def gA : Gram := ⟨0, [nmSS], [⟨0, [⟨false, [sA, sS]⟩]⟩, ⟨0, [⟨false, []⟩]⟩]⟩
theorem gA_may : mayB gA = true := by decide +kernel
theorem gA_ref : ¬ RefG gA := by
  rintro (h | h)
  · rw [gA_may] at h; cases h
  · refine no_neg ?_ h
    decide
section
variable {R : Ky → Int} {W : ByteArray}
/-- What stands beneath a name's span. -/
theorem gA_ben (H : RkOK R gA W) {i j : Int} (h : 0 < R (nameKey 0 i j)) : (i < j ∧ btz W i = 97 ∧ 0 < R (nameKey 0 (i + 1) j) ∧ beneathB R gA W (nameKey 0 i j) = (0, [nameKey 0 (i + 1) j])) ∨ (i = j ∧ beneathB R gA W (nameKey 0 i j) = (1, [])) := by
  obtain ⟨r, x, hx, -, hH, -, -, hb, -⟩ := beneath_ok H h rfl
  match r, hx, hH, hb with
  | 0, hx, hH, hb =>
    have hx : some (⟨0, [⟨false, [sA, sS]⟩]⟩ : Rul) = some x := hx
    injection hx with hx
    subst hx
    have h0 := holdsK_at hH (c := 0) (y := ⟨false, [sA, sS]⟩) rfl rfl
    obtain ⟨g1, g2, g3, g4, g5⟩ := along_byte H (s := sA) h0 (by simp [ckey, seqKey]) rfl (by decide)
    obtain ⟨at', f1, f2, f3, f4, -, f5⟩ := along_split H (s := sS) g4 (by simp [seqKey]) rfl (by decide)
    obtain ⟨e1, e2⟩ := along_end H f4 (by simp [seqKey]) rfl
    have e1 : at' = j := e1
    subst e1
    refine .inl ⟨g1, ?_, f3, ?_⟩
    · have g2 : (97 : Int) ≤ btz W i := g2
      have g3 : btz W i ≤ 97 := g3
      omega
    · rw [hb]
      show ((0 : Int), [] ++ alongTo R gA W (65 + 1) (ckey 0 0 (nameKey 0 i at'))) = _
      rw [g5, f5, e2]
      rfl
  | 1, hx, hH, hb =>
    have hx : some (⟨0, [⟨false, []⟩]⟩ : Rul) = some x := hx
    injection hx with hx
    subst hx
    have h0 := holdsK_at hH (c := 0) (y := ⟨false, []⟩) rfl rfl
    obtain ⟨e1, e2⟩ := along_end H h0 (by simp [ckey, seqKey]) rfl
    refine .inr ⟨e1, ?_⟩
    rw [hb]
    show ((1 : Int), [] ++ alongTo R gA W 66 (ckey 1 0 (nameKey 0 i j))) = _
    rw [e2]
    rfl
  | r + 2, hx, _, _ => simp [gA] at hx
theorem gA_has0 (C : RkC R gA W) {i : Int} (h0 : 0 ≤ i) (h1 : i ≤ W.size) : 0 < R (nameKey 0 i i) := by
  refine C.name 1 ⟨0, [⟨false, []⟩]⟩ i i rfl h0 (Int.le_refl _) h1 fun c y hy => ?_
  match c, hy with
  | 0, hy =>
    have hy : some (⟨false, []⟩ : Conj) = some y := hy
    injection hy with hy
    subst hy
    have := C.fin 1 0 ⟨0, [⟨false, []⟩]⟩ ⟨false, []⟩ i rfl rfl h0 h1
    simpa using this
  | c + 1, hy => simp at hy
theorem gA_has (C : RkC R gA W) {i j : Int} (h0 : 0 ≤ i) (h1 : i < j) (h2 : j ≤ W.size) (hb : btz W i = 97) (h : 0 < R (nameKey 0 (i + 1) j)) : 0 < R (nameKey 0 i j) := by
  refine C.name 0 ⟨0, [⟨false, [sA, sS]⟩]⟩ i j rfl h0 (by omega) h2 fun c y hy => ?_
  match c, hy with
  | 0, hy =>
    have hy : some (⟨false, [sA, sS]⟩ : Conj) = some y := hy
    injection hy with hy
    subst hy
    have e3 := C.fin 0 0 _ ⟨false, [sA, sS]⟩ j rfl rfl (by omega) h2
    have e2 := C.split 0 0 1 _ ⟨false, [sA, sS]⟩ sS (i + 1) j j rfl rfl rfl (by decide) (by omega) (by omega) (Int.le_refl _) h2 h e3
    have e1 := C.byte 0 0 0 _ ⟨false, [sA, sS]⟩ sA i j rfl rfl rfl (by decide) h0 h1 h2 (by show (97 : Int) ≤ btz W i; omega) (by show btz W i ≤ 97; omega) e2
    have e1 : 0 < R (seqKey ⟨(0 : Nat), (0 : Nat), 0⟩ i j) := e1
    simpa using e1
  | c + 1, hy => simp at hy
end
def wAA : ByteArray := ⟨#[97, 97]⟩
def wB : ByteArray := ⟨#[98]⟩
theorem gA_tree {R : Ky → Int} (H : RkOK R gA wAA) (C : RkC R gA wAA) : 0 < R (nameKey gA.start 0 wAA.size) ∧ firstGo R gA wAA 4098 [] [nameKey gA.start 0 wAA.size] = some [⟨0, 0, 0, 2, 1⟩, ⟨0, 0, 1, 2, 1⟩, ⟨0, 1, 2, 2, 0⟩] := by
  have p2 := gA_has0 C (i := 2) (by decide) (by decide)
  have p1 := gA_has C (i := 1) (j := 2) (by decide) (by decide) (by decide) (by decide) p2
  have p0 := gA_has C (i := 0) (j := 2) (by decide) (by decide) (by decide) (by decide) p1
  have b2 := gA_ben H p2
  have b1 := gA_ben H p1
  have b0 := gA_ben H p0
  have b2 : beneathB R gA wAA (nameKey 0 2 2) = (1, []) := b2.elim (fun h => absurd h.1 (by decide)) (fun h => h.2)
  have b1 : beneathB R gA wAA (nameKey 0 1 2) = (0, [nameKey 0 2 2]) := b1.elim (fun h => h.2.2.2) (fun h => absurd h.1 (by decide))
  have b0 : beneathB R gA wAA (nameKey 0 0 2) = (0, [nameKey 0 1 2]) := b0.elim (fun h => h.2.2.2) (fun h => absurd h.1 (by decide))
  have t2 : treeOf R gA wAA (nameKey 0 2 2) = [⟨0, 1, 2, 2, 0⟩] := by rw [treeOf_eq H p2 rfl, brnOf, b2]; rfl
  have t1 : treeOf R gA wAA (nameKey 0 1 2) = [⟨0, 0, 1, 2, 1⟩, ⟨0, 1, 2, 2, 0⟩] := by rw [treeOf_eq H p1 rfl, brnOf, b1, List.flatMap_cons, t2]; rfl
  have t0 : treeOf R gA wAA (nameKey 0 0 2) = [⟨0, 0, 0, 2, 1⟩, ⟨0, 0, 1, 2, 1⟩, ⟨0, 1, 2, 2, 0⟩] := by rw [treeOf_eq H p0 rfl, brnOf, b0, List.flatMap_cons, t1]; rfl
  have hf : [nameKey 0 0 2].flatMap (treeOf R gA wAA) = [⟨0, 0, 0, 2, 1⟩, ⟨0, 0, 1, 2, 1⟩, ⟨0, 1, 2, 2, 0⟩] := by rw [List.flatMap_cons, t0]; rfl
  refine ⟨p0, ?_⟩
  have := firstGo_some H 4098 [] [nameKey 0 0 2] (fun q hq => by simp at hq; rw [hq]; exact ⟨rfl, p0⟩) (by rw [hf]; decide) (by rw [hf]; decide)
  rw [hf] at this
  exact this
theorem gA_none {R : Ky → Int} (H : RkOK R gA wB) : R (nameKey gA.start 0 wB.size) = 0 := by
  have h0 := H.lo (nameKey gA.start 0 wB.size)
  by_cases h : 0 < R (nameKey gA.start 0 wB.size)
  · exfalso
    rcases gA_ben H (i := 0) (j := 1) h with ⟨-, h2, -⟩ | ⟨h2, -⟩
    · revert h2; decide
    · revert h2; decide
  · omega
def g00 : Gram := ⟨0, [], []⟩
theorem g00_ref : RefG g00 := .inl (by decide +kernel)
end Go.Proofs.Ytbidpeggdhkahaa
