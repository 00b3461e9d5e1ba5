/-
  Ii: ranks from below (what holds has a rank); the names along a conjunct, step by step: plain. No program in sight.
-/
import Derived.Test.YtbidpeggdhkahaaI2
import Derived.Test.YtbidpeggdhkahaaI3
set_option linter.unusedSimpArgs false
set_option linter.unusedVariables false
namespace Go.Proofs.Ytbidpeggdhkahaa
open Go.RowKit

/-- What holds has a rank. -/
structure RkC (R : Ky → Int) (G : Gram) (W : ByteArray) : Prop where
  fin : ∀ (r c : Nat) (x : Rul) (y : Conj) (i : Int), G.rules[r]? = some x → x.conj[c]? = some y → 0 ≤ i → i ≤ W.size → 0 < R (seqKey ⟨r, c, y.seq.length⟩ i i)
  byte : ∀ (r c q : Nat) (x : Rul) (y : Conj) (s : Sym) (i j : Int), G.rules[r]? = some x → x.conj[c]? = some y → y.seq[q]? = some s → s.name < 0 → 0 ≤ i → i < j → j ≤ W.size → s.lo ≤ btz W i → btz W i ≤ s.hi → 0 < R (seqKey ⟨r, c, (q + 1 : Nat)⟩ (i + 1) j) → 0 < R (seqKey ⟨r, c, q⟩ i j)
  split : ∀ (r c q : Nat) (x : Rul) (y : Conj) (s : Sym) (i a j : Int), G.rules[r]? = some x → x.conj[c]? = some y → y.seq[q]? = some s → 0 ≤ s.name → 0 ≤ i → i ≤ a → a ≤ j → j ≤ W.size → 0 < R (nameKey s.name i a) → 0 < R (seqKey ⟨r, c, (q + 1 : Nat)⟩ a j) → 0 < R (seqKey ⟨r, c, q⟩ i j)
  name : ∀ (r : Nat) (x : Rul) (i j : Int), G.rules[r]? = some x → 0 ≤ i → i ≤ j → j ≤ W.size → (∀ (c : Nat) (y : Conj), x.conj[c]? = some y → (decide (0 < R (seqKey ⟨r, c, 0⟩ i j)) != y.neg) = true) → 0 < R (nameKey x.head i j)
theorem rkC {G : Gram} {W : ByteArray} {N : Rk} {P : Nat → Nat → Nat → Int → Int → Int} (M : MayG G) (V : View G.rules G.names.length (fun i => btz W i) W.size N P) : RkC (rankV G W N P) G W := by
  refine ⟨fun r c x y i hx hy i0 i1 => ?_, fun r c q x y s i j hx hy hs hn i0 ij j1 h1 h2 h3 => ?_, fun r c q x y s i a j hx hy hs hn i0 ia aj j1 h1 h2 => ?_, fun r x i j hx i0 ij j1 h => ?_⟩
  · rw [rankV_seq hx hy (Nat.le_refl _) i0 (Int.le_refl _) i1, V.pEnd r x c y i i hx hy i0 (Int.le_refl _) i1, if_pos rfl]
    decide
  · have hq := (List.getElem?_eq_some_iff.1 hs).1
    rw [rankV_seq hx hy hq (by omega) (by omega) j1] at h3
    have h3 : 0 < P r c (q + 1) (i + 1) j := h3
    rw [rankV_seq hx hy (by omega) i0 (by omega) j1, V.pByte r x c y q s i j hx hy hs hn i0 (by omega) j1, if_pos ⟨ij, h1, h2, h3⟩]
    omega
  · have hq := (List.getElem?_eq_some_iff.1 hs).1
    have hsn := symB_lt (M.sym r x c y q s hx hy hs) (by have := M.K1; omega)
    rw [rankV_seq hx hy hq (by omega) (by omega) j1] at h2
    have h2 : 0 < P r c (q + 1) a j := h2
    rw [rankV_name (nm := s.name.toNat) (i := i) (j := a) (by omega) i0 ia (by omega) _ rfl (by simp only [nameKey]; omega) rfl rfl] at h1
    rw [rankV_seq hx hy (by omega) i0 (by omega) j1]
    have hb := V.pName r x c y q s i j hx hy hs hn i0 (by omega) j1
    exact (hb.le (a - i).toNat (by omega) (by rw [show i + ((a - i).toNat : Int) = a by omega]; exact h1) (by rw [show i + ((a - i).toNat : Int) = a by omega]; exact h2)).1
  · have hh := M.head r x hx
    rw [rankV_name (nm := x.head.toNat) (i := i) (j := j) (by omega) i0 ij j1 _ rfl (by simp only [nameKey]; omega) rfl rfl]
    refine (V.nLe r x i j hx (by omega) i0 ij j1 fun c y hc hy => ?_).1
    have := h c y hy
    have e := rankV_seq (N := N) (P := P) (W := W) (q := 0) hx hy (Nat.zero_le _) i0 ij j1
    rw [show ((0 : Nat) : Int) = 0 from rfl] at e
    rw [e] at this
    cases hd : decide (0 < P r c 0 i j) <;> cases hn : y.neg <;> simp_all
section
variable {R : Ky → Int} {G : Gram} {W : ByteArray}
theorem along_end (H : RkOK R G W) {k : Ky} (h : 0 < R k) (hk : k.kind ≠ 0) (hs : symOf G k.plc = none) : k.i = k.j ∧ ∀ n, alongTo R G W n k = [] := by
  rcases seq_pick H h hk with ⟨-, h1, e⟩ | ⟨s, hs', -⟩ | ⟨s, _, hs', -⟩
  · refine ⟨h1, fun n => ?_⟩
    cases n with
    | zero => rfl
    | succ n => simp only [alongTo, e]
  · rw [hs] at hs'; cases hs'
  · rw [hs] at hs'; cases hs'
theorem along_byte (H : RkOK R G W) {k : Ky} {s : Sym} (h : 0 < R k) (hk : k.kind ≠ 0) (hs : symOf G k.plc = some s) (hn : s.name < 0) :
    k.i < k.j ∧ s.lo ≤ btz W k.i ∧ btz W k.i ≤ s.hi ∧ 0 < R (seqKey (onP k.plc) (k.i + 1) k.j) ∧ ∀ n, alongTo R G W (n + 1) k = alongTo R G W n (seqKey (onP k.plc) (k.i + 1) k.j) := by
  rcases seq_pick H h hk with ⟨hs', -⟩ | ⟨s', hs', -, h1, h2, h3, h4, -, e⟩ | ⟨s', _, hs', hn', -⟩
  · rw [hs] at hs'; cases hs'
  · rw [hs] at hs'; injection hs' with hs'; subst hs'
    exact ⟨h1, h2, h3, h4, fun n => by simp only [alongTo, e]⟩
  · rw [hs] at hs'; injection hs' with hs'; subst hs'; omega
theorem along_split (H : RkOK R G W) {k : Ky} {s : Sym} (h : 0 < R k) (hk : k.kind ≠ 0) (hs : symOf G k.plc = some s) (hn : 0 ≤ s.name) :
    ∃ at', k.i ≤ at' ∧ at' ≤ k.j ∧ 0 < R (nameKey s.name k.i at') ∧ 0 < R (seqKey (onP k.plc) at' k.j) ∧ R (nameKey s.name k.i at') < R k ∧ ∀ n, alongTo R G W (n + 1) k = nameKey s.name k.i at' :: alongTo R G W n (seqKey (onP k.plc) at' k.j) := by
  rcases seq_pick H h hk with ⟨hs', -⟩ | ⟨s', hs', hn', -⟩ | ⟨s', at', hs', -, h1, h2, h3, h4, h5, -, e⟩
  · rw [hs] at hs'; cases hs'
  · rw [hs] at hs'; injection hs' with hs'; subst hs'; omega
  · rw [hs] at hs'; injection hs' with hs'; subst hs'
    exact ⟨at', h1, h2, h3, h4, h5, fun n => by simp only [alongTo, e]⟩
end
/-- A grammar without negations is no cycle through one. -/
theorem no_neg {G : Gram} (h : ∀ x ∈ G.rules, ∀ y ∈ x.conj, y.neg = false) : ¬ NegCyc (edgesOf G) := by
  rintro ⟨e, he, h1, -⟩
  obtain ⟨x, hx, y, hy, s, hs, -, rfl⟩ := mem_edgesOf.1 he
  rw [h x hx y hy] at h1
  cases h1
end Go.Proofs.Ytbidpeggdhkahaa
