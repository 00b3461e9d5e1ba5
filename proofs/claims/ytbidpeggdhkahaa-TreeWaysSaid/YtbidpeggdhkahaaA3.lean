/-
  A3: small words on slices of the call's own, and the rows of types' sizes.
-/
import Derived.Test.YtbidpeggdhkahaaA2
import Derived.Test.YtbidpeggdhkahaaProg
import Derived.KernelRfl
import Derived.Deep.LoopGhost
import Derived.Deep.DeepCutAuto
import Derived.BigRegion
import Derived.Deep.RegionLaw
import Derived.Deep.RegionHeld3
import Derived.WalkLawsBesides
import Derived.ChangeAlike
import Derived.RegionTactic
import Derived.Lib.Hide
import Derived.BigQuiet
import Derived.Deep.QuietTactic
import Derived.Outline
import Derived.WalkSpells
import Derived.Laws.MakeOwn
set_option linter.unusedSimpArgs false
set_option linter.unusedVariables false
namespace Go.Proofs.Ytbidpeggdhkahaa
open Go.RowKit

theorem below_trans {w w1 w2 : World} (h : Below w.heap.size w w1) (k : Below w1.heap.size w1 w2) : Below w.heap.size w w2 := h.trans (k.mono h.size)
theorem infoStr : (Try.prog.info? 9).map (fun i => (i.zero, i.size, i.bytes)) = some (some (.string ⟨#[]⟩), 1, 16) := by kernel_rfl
theorem infoSym : (Try.prog.info? 44).map (fun i => (i.zero, i.size, i.bytes)) = some (some (.agg #[(.int .i64 0), (.int .i64 0), (.int .i64 0)]), 3, 24) := by kernel_rfl
theorem infoConj : (Try.prog.info? 32).map (fun i => (i.zero, i.size, i.bytes)) = some (some (.agg #[(.bool false), (.slice none 0 0)]), 2, 32) := by kernel_rfl
theorem infoRul : (Try.prog.info? 29).map (fun i => (i.zero, i.size, i.bytes)) = some (some (.agg #[(.int .i64 0), (.slice none 0 0)]), 2, 32) := by kernel_rfl
theorem infoInt : (Try.prog.info? 3).map (fun i => (i.zero, i.size, i.bytes)) = some (some (.int .i64 0), 1, 8) := by kernel_rfl
theorem take_snoc {α : Type} {l : List α} {k : Nat} {y : α} (h : l[k]? = some y) : l.take (k + 1) = l.take k ++ [y] := by
  have hk : k < l.length := (List.getElem?_eq_some_iff.1 h).1
  rw [List.take_succ_eq_append_getElem hk]
  rw [List.getElem?_eq_getElem hk] at h
  injection h with h
  rw [h]
theorem own_block_type {α : Type} {d : Rd α} {e : TypeId} {base : Nat} {w : World} {v : Value} {xs : List α} (h : Own d e base w v xs) {b : Nat} (hb : v.ownBlock = some b) : ∃ cur, w.heap[b]? = some (.cells cur e (0, 0)) := by
  obtain ⟨css, q1, q2, q3⟩ := h
  rcases q2.2 with ⟨rfl, _⟩ | ⟨g, cap, cur, rfl, _, hh, _⟩
  · simp [Value.ownBlock] at hb
  · simp [Value.ownBlock] at hb
    subst hb
    exact ⟨cur, hh⟩
theorem blk_type_ne {w : World} {g g' : Nat} {cs cs' : Array Value} {t t' : TypeId} (h : w.heap[g]? = some (.cells cs t (0, 0))) (h' : w.heap[g']? = some (.cells cs' t' (0, 0))) (hne : t ≠ t') : g ≠ g' := by
  rintro rfl
  rw [h] at h'
  injection h' with h'
  injection h' with _ h2
  exact hne h2
theorem own_type_ne {α β : Type} {d : Rd α} {d' : Rd β} {e e' : TypeId} {base base' : Nat} {w : World} {v v' : Value} {xs : List α} {ys : List β} (h : Own d e base w v xs) (h' : Own d' e' base' w v' ys) (hne : e ≠ e') {b : Nat} (hb : v.ownBlock = some b) : v'.ownBlock ≠ some b := by
  intro hb'
  obtain ⟨cur, hc⟩ := own_block_type h hb
  obtain ⟨cur', hc'⟩ := own_block_type h' hb'
  exact blk_type_ne hc hc' hne rfl
theorem Own.form {α : Type} {d : Rd α} {e : TypeId} {base : Nat} {w : World} {v : Value} {xs : List α} (h : Own d e base w v xs) (hx : 0 < xs.length) : ∃ g cap, v = .slice (some ⟨g, 0, none⟩) xs.length cap ∧ base ≤ g ∧ (∃ cur, w.heap[g]? = some (.cells cur e (0, 0))) ∧ xs.length ≤ cap ∧ cap ≤ 9223372036854775807 := by
  obtain ⟨css, q1, q2, q3⟩ := h
  rcases q2.2 with ⟨_, h0⟩ | ⟨g, cap, cur, rfl, hb, hh, h4, h5, _⟩
  · omega
  · exact ⟨g, cap, rfl, hb, ⟨cur, hh⟩, h4, by rw [← maxLen_eq]; exact h5⟩
theorem Own.one_at {α : Type} {enc : α → Value} {h1 : ∀ x, (enc x).oneCell' = true} {e : TypeId} {base : Nat} {w : World} {g n cap : Nat} {xs : List α} (h : Own (Rd.val enc h1) e base w (.slice (some ⟨g, 0, none⟩) n cap) xs) {i : Nat} {x : α} (hx : xs[i]? = some x) : w.cell? ⟨g, i, none⟩ = some (enc x) := by
  obtain ⟨A, c, e1, _, _, hC⟩ := h.shape
  injection e1 with e1 _ _
  subst e1
  obtain ⟨ad, e2, hc⟩ := hC.one hx
  injection e2 with e2
  subst e2
  rw [add_plain, Nat.zero_add] at hc
  exact hc
theorem own_empty {α : Type} {d : Rd α} {e : TypeId} {base b : Nat} {w : World} (h : w.heap[b]? = some (.cells #[] e (0, 0))) (hb : base ≤ b) : Own d e base w (.slice (some ⟨b, 0, none⟩) 0 0) [] :=
  ⟨[], rfl, ⟨by simp, .inr ⟨b, 0, #[], rfl, hb, h, Nat.le_refl _, by decide, by simp, by simp⟩⟩, fun i x cs h => by simp at h⟩
/-- A row of ranks, all 0. -/
def zRow (S : Nat) : Obj := .cells (madeCells #[.int .i64 0] S) 3 (0, 0)
theorem infoSl : (Try.prog.info? 46).map (fun i => (i.zero, i.size, i.bytes)) = some (some (.slice none 0 0), 1, 24) := by kernel_rfl
theorem mk_run (S : Nat) (h : S ≤ 1089) : ∀ w : World, (Instr.makeSlice 46 (.int .i64 (S : Int)) (.int .i64 (S : Int))).run Try.prog w = .ok (.slice (some ⟨w.heap.size, 0, none⟩) S S) (w.alloc (zRow S)) := by
  intro w
  obtain ⟨i0, hi, hz0, hz1, hz2⟩ := info_parts infoInt
  have h := run_make (P := Try.prog) w 46 3 i0 (.int .i64 0) Try.underlying46 hi hz0 .i64 .i64 (S : Int) (S : Int) (by omega) (by omega) (by rw [hz2]; omega) (by omega)
  rw [h, hz1]
  simp only [Int.toNat_natCast, Nat.mul_one, zRow]
  rfl
theorem sp_eq (n S : Nat) (hS : S = (n + 1) * (n + 1)) (h : S ≤ 1089) : wrap64 (((n : Int) + 1) * ((n : Int) + 1)) = (S : Int) ∧ IntKind.i64.wrap (((n : Int) + 1) * ((n : Int) + 1)) = (S : Int) := by
  have : (((n + 1) * (n + 1) : Nat) : Int) = ((n : Int) + 1) * ((n : Int) + 1) := by push_cast; rfl
  rw [← this, ← hS]
  exact ⟨by unfold wrap64; omega, IntWalk.i64_in _ (by omega)⟩
theorem sp_bd (n S : Nat) (hS : S = (n + 1) * (n + 1)) (hn : n ≤ 32) : 1 ≤ S ∧ S ≤ 1089 := by
  rw [hS]
  have h1 : (n + 1) * (n + 1) ≤ 33 * 33 := Nat.mul_le_mul (by omega) (by omega)
  have h2 := Nat.mul_pos (show 0 < n + 1 by omega) (show 0 < n + 1 by omega)
  omega
end Go.Proofs.Ytbidpeggdhkahaa
