/-
  Im: the tree of bytes that nest (the grammar of templelaw22's TreeRows): plain. No program in sight.
-/
import Derived.Test.YtbidpeggdhkahaaIj
set_option linter.unusedSimpArgs false
set_option linter.unusedVariables false
namespace Go.Proofs.Ytbidpeggdhkahaa
open Go.RowKit

def sB : Sym := ⟨-1, 98, 98⟩
/-- S → "" | 'a' S 'b'. -/
def gN : Gram := ⟨0, [nmSS], [⟨0, [⟨false, []⟩]⟩, ⟨0, [⟨false, [sA, sS, sB]⟩]⟩]⟩
theorem gN_may : mayB gN = true := by decide +kernel
theorem gN_ref : ¬ RefG gN := by
  rintro (h | h)
  · rw [gN_may] at h; cases h
  · refine no_neg ?_ h
    decide
section
variable {R : Ky → Int} {W : ByteArray}
/-- What stands beneath a name's span. -/
theorem gN_ben (H : RkOK R gN W) {i j : Int} (h : 0 < R (nameKey 0 i j)) : (i = j ∧ beneathB R gN W (nameKey 0 i j) = (0, [])) ∨ (i < j ∧ btz W i = 97 ∧ 0 < R (nameKey 0 (i + 1) (j - 1)) ∧ beneathB R gN W (nameKey 0 i j) = (1, [nameKey 0 (i + 1) (j - 1)])) := by
  obtain ⟨r, x, hx, -, hH, -, -, hb, -⟩ := beneath_ok H h rfl
  match r, hx, hH, hb with
  | 0, hx, hH, hb =>
    have hx : some (⟨0, [⟨false, []⟩]⟩ : Rul) = some x := hx
    injection hx with hx
    subst hx
    have h0 := holdsK_at hH (c := 0) (y := ⟨false, []⟩) rfl rfl
    obtain ⟨e1, e2⟩ := along_end H h0 (by simp [ckey, seqKey]) rfl
    refine .inl ⟨e1, ?_⟩
    rw [hb]
    show ((0 : Int), [] ++ alongTo R gN W 66 (ckey 0 0 (nameKey 0 i j))) = _
    rw [e2]
    rfl
  | 1, hx, hH, hb =>
    have hx : some (⟨0, [⟨false, [sA, sS, sB]⟩]⟩ : Rul) = some x := hx
    injection hx with hx
    subst hx
    have h0 := holdsK_at hH (c := 0) (y := ⟨false, [sA, sS, sB]⟩) rfl rfl
    obtain ⟨g1, g2, g3, g4, g5⟩ := along_byte H (s := sA) h0 (by simp [ckey, seqKey]) rfl (by decide)
    obtain ⟨at', f1, f2, f3, f4, -, f5⟩ := along_split H (s := sS) g4 (by simp [seqKey]) rfl (by decide)
    obtain ⟨d1, d2, d3, d4, d5⟩ := along_byte H (s := sB) f4 (by simp [seqKey]) rfl (by decide)
    obtain ⟨e1, e2⟩ := along_end H d4 (by simp [seqKey]) rfl
    have e1 : at' + 1 = j := e1
    have e3 : at' = j - 1 := by omega
    subst e3
    refine .inr ⟨g1, ?_, f3, ?_⟩
    · have g2 : (97 : Int) ≤ btz W i := g2
      have g3 : btz W i ≤ 97 := g3
      omega
    · rw [hb]
      show ((1 : Int), [] ++ alongTo R gN W (64 + 1 + 1) (ckey 1 0 (nameKey 0 i j))) = _
      rw [g5, f5]
      show ((1 : Int), [] ++ (nameKey 0 (i + 1) (j - 1) :: alongTo R gN W (63 + 1) (seqKey (onP ⟨1, 0, 1⟩) (j - 1) j))) = _
      rw [show alongTo R gN W (63 + 1) (seqKey (onP ⟨1, 0, 1⟩) (j - 1) j) = alongTo R gN W 63 _ from d5 63, e2]
      rfl
  | r + 2, hx, _, _ => simp [gN] at hx
theorem gN_has0 (C : RkC R gN W) {i : Int} (h0 : 0 ≤ i) (h1 : i ≤ W.size) : 0 < R (nameKey 0 i i) := by
  refine C.name 0 ⟨0, [⟨false, []⟩]⟩ i i rfl h0 (Int.le_refl _) h1 fun c y hy => ?_
  match c, hy with
  | 0, hy =>
    have hy : some (⟨false, []⟩ : Conj) = some y := hy
    injection hy with hy
    subst hy
    have := C.fin 0 0 ⟨0, [⟨false, []⟩]⟩ ⟨false, []⟩ i rfl rfl h0 h1
    simpa using this
  | c + 1, hy => simp at hy
theorem gN_has (C : RkC R gN W) {i j : Int} (h0 : 0 ≤ i) (h1 : i + 1 ≤ j - 1) (h2 : j ≤ W.size) (hb : btz W i = 97) (hb' : btz W (j - 1) = 98) (h : 0 < R (nameKey 0 (i + 1) (j - 1))) : 0 < R (nameKey 0 i j) := by
  refine C.name 1 ⟨0, [⟨false, [sA, sS, sB]⟩]⟩ i j rfl h0 (by omega) h2 fun c y hy => ?_
  match c, hy with
  | 0, hy =>
    have hy : some (⟨false, [sA, sS, sB]⟩ : Conj) = some y := hy
    injection hy with hy
    subst hy
    have e4 := C.fin 1 0 _ ⟨false, [sA, sS, sB]⟩ j rfl rfl (by omega) h2
    have e3 := C.byte 1 0 2 _ ⟨false, [sA, sS, sB]⟩ sB (j - 1) j rfl rfl rfl (by decide) (by omega) (by omega) h2 (by show (98 : Int) ≤ btz W (j - 1); omega) (by show btz W (j - 1) ≤ 98; omega) (by rw [show j - 1 + 1 = j by omega]; exact e4)
    have e2 := C.split 1 0 1 _ ⟨false, [sA, sS, sB]⟩ sS (i + 1) (j - 1) j rfl rfl rfl (by decide) (by omega) h1 (by omega) h2 h e3
    have e1 := C.byte 1 0 0 _ ⟨false, [sA, sS, sB]⟩ sA i j rfl rfl rfl (by decide) h0 (by omega) h2 (by show (97 : Int) ≤ btz W i; omega) (by show btz W i ≤ 97; omega) e2
    have e1 : 0 < R (seqKey ⟨(1 : Nat), (0 : Nat), 0⟩ i j) := e1
    simpa using e1
  | c + 1, hy => simp at hy
end
/-- The text of k 'a's and k 'b's, as it is made. -/
def nestW : Nat → ByteArray
  | 0 => ⟨#[]⟩
  | k + 1 => (⟨#[97]⟩ ++ nestW k) ++ ⟨#[98]⟩
theorem nestW_all : ∀ k : Fin 16, (nestW k.val).size = 2 * k.val ∧ ∀ i : Fin 16, (i.val < k.val → btz (nestW k.val) i.val = 97 ∧ btz (nestW k.val) (2 * (k.val : Int) - i.val - 1) = 98) := by decide +kernel
/-- The tree: n branches one in the other, and the empty one. -/
def nestT (k : Nat) : Nat → List Brn
  | 0 => [⟨0, 0, k, k, 0⟩]
  | n + 1 => ⟨0, 1, (k : Int) - (n + 1 : Nat), (k : Int) + (n + 1 : Nat), 1⟩ :: nestT k n
theorem nestT_len (k : Nat) : ∀ n, (nestT k n).length = n + 1
  | 0 => rfl
  | n + 1 => by simp [nestT, nestT_len k n]
theorem nestT_get (k : Nat) : ∀ n i, i < n → (nestT k n)[i]? = some ⟨0, 1, (k : Int) - n + i, (k : Int) + n - i, 1⟩
  | n + 1, 0, _ => by simp [nestT]
  | n + 1, i + 1, h => by
    show (nestT k n)[i]? = _
    rw [nestT_get k n i (by omega)]
    congr 2 <;> (first | rfl | omega)
theorem nestT_last (k : Nat) : ∀ n, (nestT k n)[n]? = some ⟨0, 0, k, k, 0⟩
  | 0 => rfl
  | n + 1 => nestT_last k n
theorem gN_tree {R : Ky → Int} {k : Nat} (hk : k < 16) (H : RkOK R gN (nestW k)) (C : RkC R gN (nestW k)) : ∀ n : Nat, n ≤ k → 0 < R (nameKey 0 ((k : Int) - n) ((k : Int) + n)) ∧ treeOf R gN (nestW k) (nameKey 0 ((k : Int) - n) ((k : Int) + n)) = nestT k n := by
  obtain ⟨hs, hb⟩ := nestW_all ⟨k, hk⟩
  have hs : (nestW k).size = 2 * k := hs
  intro n
  induction n with
  | zero =>
    intro _
    have e1 : (k : Int) - (0 : Nat) = k := by omega
    have e2 : (k : Int) + (0 : Nat) = k := by omega
    rw [e1, e2]
    have p := gN_has0 C (i := k) (by omega) (by omega)
    refine ⟨p, ?_⟩
    have b : beneathB R gN (nestW k) (nameKey 0 k k) = (0, []) := (gN_ben H p).elim (fun h => h.2) (fun h => absurd h.1 (by omega))
    rw [treeOf_eq H p rfl, brnOf, b]
    rfl
  | succ n ih =>
    intro hn
    obtain ⟨p, t⟩ := ih (by omega)
    obtain ⟨b1, b2⟩ := hb ⟨k - (n + 1), by omega⟩ (by show k - (n + 1) < k; omega)
    have b1 : btz (nestW k) ((k - (n + 1) : Nat) : Int) = 97 := b1
    have b2 : btz (nestW k) (2 * (k : Int) - ((k - (n + 1) : Nat) : Int) - 1) = 98 := b2
    rw [show ((k - (n + 1) : Nat) : Int) = (k : Int) - (n + 1 : Nat) by omega] at b1 b2
    rw [show 2 * (k : Int) - ((k : Int) - (n + 1 : Nat)) - 1 = (k : Int) + (n + 1 : Nat) - 1 by omega] at b2
    have p' := p
    have t' := t
    rw [show (k : Int) - (n : Nat) = (k : Int) - (n + 1 : Nat) + 1 by omega, show (k : Int) + (n : Nat) = (k : Int) + (n + 1 : Nat) - 1 by omega] at p' t'
    have q := gN_has C (i := (k : Int) - (n + 1 : Nat)) (j := (k : Int) + (n + 1 : Nat)) (by omega) (by omega) (by omega) b1 b2 p'
    refine ⟨q, ?_⟩
    have b : beneathB R gN (nestW k) (nameKey 0 ((k : Int) - (n + 1 : Nat)) ((k : Int) + (n + 1 : Nat))) = (1, [nameKey 0 ((k : Int) - (n + 1 : Nat) + 1) ((k : Int) + (n + 1 : Nat) - 1)]) :=
      (gN_ben H q).elim (fun h => absurd h.1 (by omega)) (fun h => h.2.2.2)
    rw [treeOf_eq H q rfl, brnOf, b, List.flatMap_cons, t']
    simp [nestT, nameKey]
theorem gN_first {R : Ky → Int} {k : Nat} (hk : k < 16) (H : RkOK R gN (nestW k)) (C : RkC R gN (nestW k)) : 0 < R (nameKey gN.start 0 (nestW k).size) ∧ firstGo R gN (nestW k) 4098 [] [nameKey gN.start 0 (nestW k).size] = some (nestT k k) := by
  obtain ⟨p, t⟩ := gN_tree hk H C k (Nat.le_refl _)
  obtain ⟨hs, -⟩ := nestW_all ⟨k, hk⟩
  have hs : (nestW k).size = 2 * k := hs
  have e : nameKey gN.start 0 (nestW k).size = nameKey 0 ((k : Int) - k) ((k : Int) + k) := by
    rw [hs, show (k : Int) - k = 0 by omega, show (k : Int) + k = ((2 * k : Nat) : Int) by omega]; rfl
  rw [e]
  refine ⟨p, ?_⟩
  have hf : [nameKey 0 ((k : Int) - k) ((k : Int) + k)].flatMap (treeOf R gN (nestW k)) = nestT k k := by rw [List.flatMap_cons, t]; simp
  have hl := nestT_len k k
  have := firstGo_some H 4098 [] [nameKey 0 ((k : Int) - k) ((k : Int) + k)] (fun q hq => by rw [List.mem_singleton.1 hq]; exact ⟨rfl, p⟩) (by rw [hf]; omega) (by rw [hf]; simp; omega)
  rw [hf] at this
  exact this
end Go.Proofs.Ytbidpeggdhkahaa
