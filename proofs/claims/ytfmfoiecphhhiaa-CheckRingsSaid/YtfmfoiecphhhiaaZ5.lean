/-
  Z5: what leans on itself alone: proofs of rings, which of them are taken. No program in sight.
-/
import Derived.Test.YtfmfoiecphhhiaaZ1
import Derived.Test.YtfmfoiecphhhiaaZ3
set_option linter.unusedSimpArgs false
set_option linter.unusedVariables false
namespace Go.Proofs.Ytfmfoiecphhhiaa
open Go.RowKit

def nmS (i : Nat) : ByteArray := (⟨#[110]⟩ : ByteArray) ++ digS i
def rgRul (k i : Nat) : Rul := ⟨(i : Int), [⟨false, [⟨(((i + 1) % k : Nat) : Int), 0, 0⟩]⟩]⟩
def rgN (n : Nat) : List ByteArray := (List.range n).map nmS
def rgR (k n : Nat) : List Rul := (List.range n).map (rgRul k)
def rgG (k : Nat) : Gram := ⟨0, rgN k, rgR k k⟩
theorem rgN_len (n : Nat) : (rgN n).length = n := by simp [rgN]
theorem rgR_len (k n : Nat) : (rgR k n).length = n := by simp [rgR]
theorem rgN_succ (n : Nat) : rgN (n + 1) = rgN n ++ [nmS n] := by simp [rgN, List.range_succ]
theorem rgR_succ (k n : Nat) : rgR k (n + 1) = rgR k n ++ [rgRul k n] := by simp [rgR, List.range_succ]
theorem rg_may {k : Nat} (h1 : 1 ≤ k) (h8 : k ≤ 8) : mayB (rgG k) = true := by
  have : k = 1 ∨ k = 2 ∨ k = 3 ∨ k = 4 ∨ k = 5 ∨ k = 6 ∨ k = 7 ∨ k = 8 := by omega
  rcases this with rfl | rfl | rfl | rfl | rfl | rfl | rfl | rfl <;> decide +kernel
theorem rg_cyc (k : Nat) : ¬ NegCyc (edgesOf (rgG k)) := by
  rintro ⟨e, he, h1, -⟩
  obtain ⟨r, hr, c, hc, s, hs, h0, rfl⟩ := mem_edgesOf.1 he
  simp only [rgG, rgR, List.mem_map] at hr
  obtain ⟨i, -, rfl⟩ := hr
  simp only [rgRul, List.mem_singleton] at hc
  subst hc
  cases h1
def rgA (k : Nat) (r : Int) (i : Nat) : Nod := ⟨true, 0, i, ⟨0, 0, 0⟩, 0, 0, 3 * ((k : Int) - i) + r + 3, [⟨i, 0, [3 * (i : Int) + 1]⟩]⟩
def rgB (k : Nat) (r : Int) (i : Nat) : Nod := ⟨true, 1, 0, ⟨i, 0, 0⟩, 0, 0, 3 * ((k : Int) - i) + r + 2, [⟨0, 0, [3 * (((i + 1) % k : Nat) : Int), 3 * (i : Int) + 2]⟩]⟩
def rgC (i : Nat) : Nod := ⟨true, 1, 0, ⟨i, 0, 1⟩, 0, 0, 1, []⟩
def rgD (i : Nat) : Nod := ⟨false, 0, i, ⟨0, 0, 0⟩, 0, 0, 0, [⟨i, 0, [2 * (i : Int) + 1]⟩]⟩
def rgE (k i : Nat) : Nod := ⟨false, 1, 0, ⟨i, 0, 0⟩, 0, 0, 0, [⟨0, 0, [2 * (((i + 1) % k : Nat) : Int)]⟩]⟩
def rgIn (k : Nat) (r : Int) (n : Nat) : List Nod := (List.range n).flatMap (fun i => [rgA k r i, rgB k r i, rgC i])
def rgOut (k n : Nat) : List Nod := (List.range n).flatMap (fun i => [rgD i, rgE k i])
theorem rgIn_succ (k : Nat) (r : Int) (n : Nat) : rgIn k r (n + 1) = rgIn k r n ++ [rgA k r n, rgB k r n, rgC n] := by simp [rgIn, List.range_succ]
theorem rgOut_succ (k n : Nat) : rgOut k (n + 1) = rgOut k n ++ [rgD n, rgE k n] := by simp [rgOut, List.range_succ]
theorem rgIn_len (k : Nat) (r : Int) (n : Nat) : (rgIn k r n).length = 3 * n := by
  induction n with
  | zero => rfl
  | succ n ih => rw [rgIn_succ, List.length_append, ih]; simp; omega
theorem rgOut_len (k n : Nat) : (rgOut k n).length = 2 * n := by
  induction n with
  | zero => rfl
  | succ n ih => rw [rgOut_succ, List.length_append, ih]; simp; omega
def eB : ByteArray := ⟨#[]⟩
theorem rg_out {k : Nat} (h1 : 1 ≤ k) (h8 : k ≤ 8) : takenB ⟨0, rgOut k k⟩ (rgG k) eB = true := by
  have : k = 1 ∨ k = 2 ∨ k = 3 ∨ k = 4 ∨ k = 5 ∨ k = 6 ∨ k = 7 ∨ k = 8 := by omega
  rcases this with rfl | rfl | rfl | rfl | rfl | rfl | rfl | rfl <;> decide +kernel
theorem rg_in {k : Nat} {r : Int} (h1 : 1 ≤ k) (hr : 0 ≤ r) : takenB ⟨0, rgIn k r k⟩ (rgG k) eB = false := by
  obtain ⟨m, rfl⟩ : ∃ m, k = m + 1 := ⟨k - 1, by omega⟩
  have h0 : (rgIn (m + 1) r (m + 1))[0]? = some (rgA (m + 1) r 0) := by
    unfold rgIn
    rw [List.range_succ_eq_map]
    simp
  have hm : rgB (m + 1) r m ∈ (rgIn (m + 1) r (m + 1)) := by
    unfold rgIn
    rw [List.mem_flatMap]
    exact ⟨m, List.mem_range.2 (by omega), by simp⟩
  have hl : lessK ⟨0, rgIn (m + 1) r (m + 1)⟩ (3 * (((m + 1 : Nat) : Int) - (m : Int)) + r + 2) 0 = false := by
    unfold lessK ndAt
    simp only [Int.toNat_zero, h0]
    simp [rgA]
    omega
  have hb : nodeB ⟨0, rgIn (m + 1) r (m + 1)⟩ (rgG (m + 1)) eB (rgB (m + 1) r m) = false := by
    have hs : symOf (rgG (m + 1)) ⟨(m : Int), 0, 0⟩ = some ⟨((((m + 1) % (m + 1) : Nat)) : Int), 0, 0⟩ := by
      have hm0 : ¬ ((m : Int) < 0) := by omega
      unfold symOf cjAt rgG rgR
      simp [rgRul, hm0]
    have hk : rankedB ⟨0, rgIn (m + 1) r (m + 1)⟩ (rgB (m + 1) r m) = false := by
      unfold rankedB lesserB
      simp only [rgB, Nat.mod_self, List.isEmpty_cons, Bool.false_or, List.any_cons, List.any_nil, Bool.or_false, List.all_cons]
      rw [show (3 * ((0 : Nat) : Int)) = 0 from rfl, hl]
      simp
    unfold nodeB
    simp only [rgB]
    simp only [show ((1 : Int) = 0) = False by simp, if_false, if_true]
    unfold goesB
    simp only [hs]
    simp only [Nat.mod_self]
    rw [if_neg (by simp)]
    have hk' := hk
    unfold rgB at hk'
    simp only [Nat.mod_self] at hk'
    rw [hk']
    simp
  unfold takenB
  rw [all_bad' hm hb]
  simp
end Go.Proofs.Ytfmfoiecphhhiaa
