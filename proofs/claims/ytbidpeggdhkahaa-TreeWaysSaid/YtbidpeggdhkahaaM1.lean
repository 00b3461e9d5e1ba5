/-
  M1: the walks of mean.Table's key, is, less, rest.
-/
import Derived.Test.YtbidpeggdhkahaaProg
import Derived.Test.YtbidpeggdhkahaaMp
import Derived.WalkSpells
import Derived.Outline
import Derived.Deep.QuietTactic
import Derived.BigQuiet
import Derived.Lib.Hide
import Derived.RegionTactic
import Derived.ChangeAlike
import Derived.WalkLawsBesides
set_option linter.unusedSimpArgs false
set_option linter.unusedVariables false
namespace Go.Proofs.Ytbidpeggdhkahaa
open Go.RowKit

set_option maxHeartbeats 400000 in
theorem key_any (p : Nat) (W : ByteArray) (i j : Int) (w : World)
   (hw : w.cell? ⟨p, 3, none⟩ = some (.string W)) (hW : W.size ≤ 32) (hi0 : 0 ≤ i) (hi : i ≤ 33) (hj0 : 0 ≤ j) (hj : j ≤ 33) :
   Calls Try.prog 27 #[.pointer (some ⟨p, 0, none⟩), .int .i64 i, .int .i64 j] w fun e w' => e = .returned (.int .i64 (i * (W.size + 1) + j)) ∧ w = w' := by
  have hm := mulb i W.size hi0 hi hW
  have h1 := hm.1
  have h2 := hm.2
  clear hm
  go_enter Try.func27, Try.ntmps27
  go_wp2
  go_ret
  exact ⟨rfl, rfl⟩

theorem key_q (p : Nat) (W : ByteArray) (i j : Int) (w : World)
   (hw : w.cell? ⟨p, 3, none⟩ = some (.string W)) (hW : W.size ≤ 32) (hi0 : 0 ≤ i) (hi : i ≤ 33) (hj0 : 0 ≤ j) (hj : j ≤ 33) :
   Calls Try.prog 27 #[.pointer (some ⟨p, 0, none⟩), .int .i64 i, .int .i64 j] w fun e w' => e = .returned (.int .i64 (i * (W.size + 1) + j)) ∧ w' = w :=
  (key_any p W i j w hw hW hi0 hi hj0 hj).mono fun _ _ ⟨he, hw⟩ => ⟨he, hw.symm⟩

set_option maxHeartbeats 400000 in
theorem is_any (p : Nat) (W : ByteArray) (i j : Int) (w : World)
   (hw : w.cell? ⟨p, 3, none⟩ = some (.string W)) :
   Calls Try.prog 26 #[.pointer (some ⟨p, 0, none⟩), .int .i64 i, .int .i64 j] w fun e w' => e = .returned (.bool (decide (0 ≤ i) && decide (i ≤ j) && decide (j ≤ W.size))) ∧ w = w' := by
  by_cases h1 : 0 ≤ i
  · by_cases h2 : i ≤ j
    · go_enter Try.func26, Try.ntmps26
      go_wp2
      go_ret
      exact ⟨by simp [h1, h2], rfl⟩
    · go_enter Try.func26, Try.ntmps26
      go_wp2
      go_ret
      exact ⟨by congr 2; simp [h2]; omega, rfl⟩
  · go_enter Try.func26, Try.ntmps26
    go_wp2
    go_ret
    exact ⟨by congr 2; simp [h1]; omega, rfl⟩

set_option maxHeartbeats 400000 in
theorem less_any (p : Nat) (W : ByteArray) (b c S : Nat) (i j rank old : Int) (w : World)
   (hw : w.cell? ⟨p, 3, none⟩ = some (.string W)) (hW : W.size ≤ 32) (hi0 : 0 ≤ i) (hi : i ≤ W.size) (hj0 : 0 ≤ j) (hj : j ≤ W.size)
   (hS : i * (W.size + 1) + j < S)
   (hc : w.cell? ⟨b, (i * (W.size + 1) + j).toNat, none⟩ = some (.int .i64 old)) (hf : w.frozen? ⟨b, (i * (W.size + 1) + j).toNat, none⟩ = false) :
   Calls Try.prog 49 #[.pointer (some ⟨p, 0, none⟩), .slice (some ⟨b, 0, none⟩) S c, .int .i64 i, .int .i64 j, .int .i64 rank] w
     fun e w' => e = .returned (.bool (lessB old rank)) ∧ w' = setIf (lessB old rank) w ⟨b, (i * (W.size + 1) + j).toNat, none⟩ (.int .i64 rank) := by
  have hm := mulb i W.size hi0 (by omega) hW
  have h1 := hm.1
  have h2 := hm.2
  clear hm
  obtain ⟨K, hK⟩ : ∃ K, K = i * ((W.size : Int) + 1) := ⟨_, rfl⟩
  rw [← hK] at hS hc hf h1 h2 ⊢
  have HK := Lib.hid hK
  clear hK
  have h0 : 0 ≤ K + j := by omega
  by_cases c1 : rank = 0
  · subst c1
    go_enter Try.func49, Try.ntmps49
    go_wp2_with (go_at_call 27; refine (key_any p W i j _ (by assumption) hW hi0 (by omega) hj0 (by omega)).mono ?_; rintro e w' ⟨rfl, rfl⟩)
    go_ret
    exact ⟨by simp [lessB], by simp [lessB, setIf]⟩
  · have d1 : (rank == 0) = false := by simpa using c1
    have D1 := Lib.hid c1
    clear c1
    by_cases c2 : 0 < old
    · by_cases c3 : old ≤ rank
      · go_enter Try.func49, Try.ntmps49
        go_wp2_with (go_at_call 27; refine (key_any p W i j _ (by assumption) hW hi0 (by omega) hj0 (by omega)).mono ?_; rintro e w' ⟨rfl, rfl⟩; rw [← HK.out])
        go_ret
        exact ⟨by simp [lessB, c2, c3], by simp [lessB, setIf, c2, c3]⟩
      · go_enter Try.func49, Try.ntmps49
        go_wp2_with (go_at_call 27; refine (key_any p W i j _ (by assumption) hW hi0 (by omega) hj0 (by omega)).mono ?_; rintro e w' ⟨rfl, rfl⟩; rw [← HK.out])
        go_ret
        exact ⟨by simp [lessB, D1.out, c3], by simp [lessB, setIf, D1.out, c3]⟩
    · have d2 : decide (0 < old) = false := by simpa using c2
      go_enter Try.func49, Try.ntmps49
      go_wp2_with (go_at_call 27; refine (key_any p W i j _ (by assumption) hW hi0 (by omega) hj0 (by omega)).mono ?_; rintro e w' ⟨rfl, rfl⟩; rw [← HK.out])
      go_ret
      exact ⟨by simp [lessB, D1.out, d2], by simp [lessB, setIf, D1.out, d2]⟩
end Go.Proofs.Ytbidpeggdhkahaa
