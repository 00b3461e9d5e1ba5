/-
  G1: lex.letter, more, Name; gram.symbol.
-/
import Derived.Test.YtmccdakmdcdbeaaProg
import Derived.Test.YtmccdakmdcdbeaaA2
import Derived.WalkSpells
import Derived.Outline
import Derived.Deep.QuietTactic
import Derived.BigQuiet
import Derived.Lib.Hide
import Derived.RegionTactic
import Derived.ChangeAlike
import Derived.WalkLawsBesides
set_option linter.unusedSimpArgs false
set_option linter.unusedVariables false
namespace Go.Proofs.Ytmccdakmdcdbeaa
open Go.RowKit

def letterB (c : Int) : Bool := (decide (65 ≤ c) && decide (c ≤ 90)) || (decide (97 ≤ c) && decide (c ≤ 122)) || decide (c = 95)
def moreB (c : Int) : Bool := letterB c || (decide (48 ≤ c) && decide (c ≤ 57))

theorem ret_bool {a b : Bool} (h : a = b) : Ending.returned (.bool a) = Ending.returned (.bool b) := by rw [h]
set_option maxHeartbeats 1000000 in
theorem letter_any (c : Int) (w : World) : Calls Try.prog 72 #[.int .u8 c] w fun e w' => e = .returned (.bool (letterB c)) ∧ w' = w := by
  go_enter Try.func72, Try.ntmps72
  go_wp2
  all_goals
    go_ret
    refine ⟨ret_bool ?_, rfl⟩
    rw [Bool.eq_iff_iff]; simp [letterB]; omega
set_option maxHeartbeats 1000000 in
theorem more_any (c : Int) (w : World) : Calls Try.prog 73 #[.int .u8 c] w fun e w' => e = .returned (.bool (moreB c)) ∧ w' = w := by
  cases hl : letterB c with
  | true =>
    have HL := Lib.hid hl
    go_enter Try.func73, Try.ntmps73
    go_wp2_with (go_at_call 72; refine (letter_any c _).mono ?_; rintro e w' ⟨rfl, rfl⟩; rw [HL.out])
    all_goals
      go_ret
      refine ⟨ret_bool ?_, rfl⟩
      rw [Bool.eq_iff_iff]; simp [moreB, HL.out]
  | false =>
    have HL := Lib.hid hl
    clear hl
    go_enter Try.func73, Try.ntmps73
    go_wp2_with (go_at_call 72; refine (letter_any c _).mono ?_; rintro e w' ⟨rfl, rfl⟩; rw [HL.out])
    all_goals
      go_ret
      refine ⟨ret_bool ?_, rfl⟩
      rw [Bool.eq_iff_iff]; simp [moreB, HL.out]; omega

theorem ba_size (s : ByteArray) : s.toList.length = s.size := by rw [ByteArray.toList_eq]; exact Array.length_toList
theorem ba_empty (s : ByteArray) : s.toList.isEmpty = decide (s.size = 0) := by
  rw [← ba_size]
  cases s.toList <;> simp
def startW : List UInt8 := [115, 116, 97, 114, 116]
def allMore (s : ByteArray) (n : Nat) : Bool := (List.range n).all fun i => moreB (btz s i)
def nameB (s : ByteArray) : Bool := decide (1 ≤ s.size) && decide (s.size ≤ 32) && !(s.toList == startW) && letterB (btz s 0) && allMore s s.size
theorem allMore_succ (s : ByteArray) (n : Nat) : allMore s (n + 1) = (allMore s n && moreB (btz s n)) := by simp [allMore, List.range_succ]
theorem allMore_stop {s : ByteArray} {n m : Nat} (h : allMore s n = false) (hm : n ≤ m) : allMore s m = false := by
  induction hm with
  | refl => exact h
  | step h ih => rw [Nat.succ_eq_add_one, allMore_succ, ih]; rfl
def NameRel (s : ByteArray) (w : World) (cnt : Value) (wr : World) : Prop := ∃ k : Nat, cnt = .int .i64 k ∧ k ≤ s.size ∧ allMore s k = true ∧ wr = w
set_option maxHeartbeats 1000000 in
theorem name_any (s : ByteArray) (w : World) : Calls Try.prog 65 #[.string s] w fun e w' => e = .returned (.bool (nameB s)) ∧ w' = w := by
  by_cases h0 : s.size = 0
  · have hf : nameB s = false := by simp [nameB, h0]
    have HF := Lib.hid hf
    have he : s.toList = [] := by have := ba_size s; rw [h0] at this; exact List.length_eq_zero_iff.1 this
    clear hf
    go_enter Try.func65, Try.ntmps65
    go_wp2
    go_ret
    exact ⟨ret_bool HF.out.symm, rfl⟩
  · have he : ¬ s.toList = [] := by intro h; have := ba_size s; rw [h] at this; exact h0 this.symm
    have he' : s.toList.isEmpty = false := by rw [ba_empty]; simp [h0]
    by_cases h1 : 32 < s.size
    · have hf : nameB s = false := by simp [nameB]; omega
      have HF := Lib.hid hf
      have h1' : (32 : Int) < s.size := by omega
      clear hf
      go_enter Try.func65, Try.ntmps65
      go_wp2
      go_ret
      exact ⟨ret_bool HF.out.symm, rfl⟩
    · have h1' : (s.size : Int) ≤ 32 := by omega
      have h1d : decide ((32 : Int) < s.size) = false := by simp; omega
      by_cases h2 : s.toList = [115, 116, 97, 114, 116]
      · have hf : nameB s = false := by simp [nameB, startW, h2]
        have HF := Lib.hid hf
        clear hf
        go_enter Try.func65, Try.ntmps65
        go_wp2
        go_ret
        exact ⟨ret_bool HF.out.symm, rfl⟩
      · have h2' : (s.toList == [115, 116, 97, 114, 116]) = false := by simpa using h2
        have h2s : (s.toList == startW) = false := h2'
        have hpos : 0 < s.size := by omega
        have hb0 := btz_at s 0
        have HB0 := Lib.hid (show ∀ h : 0 < s.size, ((s[0]'h).toNat : Int) = btz s 0 from fun h => hb0 h)
        clear hb0
        cases h3 : letterB (btz s 0) with
        | false =>
          have hf : nameB s = false := by simp [nameB, h3]
          have HF := Lib.hid hf
          have H3 := Lib.hid h3
          clear hf h3
          go_enter Try.func65, Try.ntmps65
          go_wp2_with (go_at_call 72; rw [HB0.out]; refine (letter_any (btz s 0) _).mono ?_; rintro e w' ⟨rfl, rfl⟩; rw [H3.out])
          go_ret
          exact ⟨ret_bool HF.out.symm, rfl⟩
        | true =>
          have hn : nameB s = allMore s s.size := by simp [nameB, h3, h2s, h1]; omega
          have HN := Lib.hid hn
          have H3 := Lib.hid h3
          clear hn h3
          go_enter Try.func65, Try.ntmps65
          go_wp2_with (go_at_call 72; rw [HB0.out]; refine (letter_any (btz s 0) _).mono ?_; rintro e w' ⟨rfl, hw⟩; obtain rfl := hw.symm; rw [H3.out])
          go_loopw [23] (fun cnt wr => NameRel s w cnt wr) (fun cnt _ => s.size - (intOf cnt).toNat)
          case atStart => exact ⟨0, rfl, Nat.zero_le _, rfl, rfl⟩
          case round =>
            obtain ⟨k, rfl, hk, hall, rfl⟩ := hrel
            have HA := Lib.hid hall
            clear hall
            by_cases hlt : k < s.size
            · have hbk := Lib.hid (show ∀ h : k < s.size, ((s[k]'h).toNat : Int) = btz s k from fun h => btz_at s k h)
              cases hm : moreB (btz s k) with
              | false =>
                have HF := Lib.hid (show nameB s = false by rw [HN.out]; exact allMore_stop (n := k + 1) (by rw [allMore_succ, hm, Bool.and_false]) hlt)
                have HM := Lib.hid hm
                clear hm
                go_wp2_with (go_at_call 73; rw [hbk.out]; refine (more_any (btz s k) _).mono ?_; rintro e w' ⟨rfl, rfl⟩; rw [HM.out])
                go_ret
                exact ⟨ret_bool HF.out.symm, rfl⟩
              | true =>
                have HM := Lib.hid hm
                clear hm
                go_wp2_with (go_at_call 73; rw [hbk.out]; refine (more_any (btz s k) _).mono ?_; rintro e w' ⟨rfl, rfl⟩; rw [HM.out])
                go_roundw
                case rel => exact ⟨k + 1, by go_num, hlt, by rw [allMore_succ, HA.out, HM.out]; rfl, rfl⟩
                case measure => simp [intOf]; omega
            · have hke : k = s.size := by omega
              go_wp2
              go_ret
              exact ⟨ret_bool (by rw [HN.out, ← hke, HA.out]), rfl⟩
end Go.Proofs.Ytmccdakmdcdbeaa
