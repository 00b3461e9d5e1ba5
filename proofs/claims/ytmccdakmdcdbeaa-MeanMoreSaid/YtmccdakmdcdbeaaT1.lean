/-
  T1: templeref1.May says yes of each grammar that gram.May says yes of: letter, digit, nameMay, find, symbolMay, ruleMay, May.
-/
import Derived.Test.YtmccdakmdcdbeaaG4
import Derived.Test.YtmccdakmdcdbeaaM0
set_option linter.unusedSimpArgs false
set_option linter.unusedVariables false
namespace Go.Proofs.Ytmccdakmdcdbeaa
open Go.RowKit

set_option maxHeartbeats 1000000 in
theorem rletter_any (c : Int) (w : World) : Calls Try.prog 41 #[.int .u8 c] w fun e w' => e = .returned (.bool (letterB c)) ∧ w' = w := by
  go_enter Try.func41, Try.ntmps41
  go_wp2
  all_goals
    go_ret
    refine ⟨ret_bool ?_, rfl⟩
    rw [Bool.eq_iff_iff]; simp [letterB]; omega
def digitB (c : Int) : Bool := decide (48 ≤ c) && decide (c ≤ 57)
set_option maxHeartbeats 1000000 in
theorem rdigit_any (c : Int) (w : World) : Calls Try.prog 42 #[.int .u8 c] w fun e w' => e = .returned (.bool (digitB c)) ∧ w' = w := by
  go_enter Try.func42, Try.ntmps42
  go_wp2
  all_goals
    go_ret
    refine ⟨ret_bool ?_, rfl⟩
    rw [Bool.eq_iff_iff]; simp [digitB]; omega
def CntRel (w : World) (n : Nat) (cnt : Value) (wr : World) : Prop := ∃ k : Nat, cnt = .int .i64 k ∧ k ≤ n ∧ wr = w
theorem allMore_at {s : ByteArray} {n : Nat} (h : allMore s n = true) {k : Nat} (hk : k < n) : moreB (btz s k) = true := by
  cases hm : moreB (btz s k) with
  | true => rfl
  | false =>
    have := allMore_stop (n := k + 1) (m := n) (by rw [allMore_succ, hm, Bool.and_false]) hk
    rw [h] at this
    cases this
set_option maxHeartbeats 2000000 in
theorem rname_any (s : ByteArray) (w : World) (hs : nameB s = true) : Calls Try.prog 33 #[.string s] w fun e w' => e = .returned (.bool true) ∧ w' = w := by
  simp only [nameB, Bool.and_eq_true, decide_eq_true_eq, Bool.not_eq_true'] at hs
  obtain ⟨⟨⟨⟨h0, h1⟩, h2⟩, h3⟩, h4⟩ := hs
  have he' : (s.toList == [115, 116, 97, 114, 116]) = false := h2
  have d0 : decide ((s.size : Int) < 1) = false := by simp; omega
  have d1 : decide ((32 : Int) < s.size) = false := by simp; omega
  have hpos : 0 < s.size := by omega
  have hb0 := btz_at s 0
  have HB0 := Lib.hid (show ∀ h : 0 < s.size, ((s[0]'h).toNat : Int) = btz s 0 from fun h => hb0 h)
  have H3 := Lib.hid h3
  have H4 := Lib.hid h4
  clear hb0 h3 h4
  go_enter Try.func33, Try.ntmps33
  go_wp2_with (go_at_call 41; rw [HB0.out]; refine (rletter_any (btz s 0) _).mono ?_; rintro e w' ⟨rfl, hw⟩; obtain rfl := hw.symm; rw [H3.out])
  go_loopw [3] (fun cnt wr => CntRel w s.size cnt wr) (fun cnt _ => s.size - (intOf cnt).toNat)
  case atStart => exact ⟨0, rfl, Nat.zero_le _, rfl⟩
  case round =>
    obtain ⟨k, rfl, hk, rfl⟩ := hrel
    by_cases hlt : k < s.size
    · have hbk := Lib.hid (show ∀ h : k < s.size, ((s[k]'h).toNat : Int) = btz s k from fun h => btz_at s k h)
      have hm := allMore_at H4.out hlt
      cases hl : letterB (btz s k) with
      | true =>
        have HL := Lib.hid hl
        clear hl hm
        go_wp2_with (go_at_call 41; rw [hbk.out]; refine (rletter_any (btz s k) _).mono ?_; rintro e w' ⟨rfl, hw⟩; obtain rfl := hw.symm; rw [HL.out])
        go_roundw
        case rel => exact ⟨k + 1, by go_num, hlt, rfl⟩
        case measure => simp [intOf]; omega
      | false =>
        have hd : digitB (btz s k) = true := by
          unfold moreB at hm
          rw [hl] at hm
          exact hm
        have HL := Lib.hid hl
        have HD := Lib.hid hd
        clear hl hm hd
        go_wp2_with (first
          | (go_at_call 41; rw [hbk.out]; refine (rletter_any (btz s k) _).mono ?_; rintro e w' ⟨rfl, hw⟩; obtain rfl := hw.symm; rw [HL.out])
          | (go_at_call 42; rw [hbk.out]; refine (rdigit_any (btz s k) _).mono ?_; rintro e w' ⟨rfl, hw⟩; obtain rfl := hw.symm; rw [HD.out])
          | fail)
        go_roundw
        case rel => exact ⟨k + 1, by go_num, hlt, rfl⟩
        case measure => simp [intOf]; omega
    · have hke : k = s.size := by omega
      subst hke
      go_wp2_with fail
      go_ret
      exact ⟨rfl, rfl⟩

set_option maxHeartbeats 2000000 in
theorem rfind_any {w : World} {A : Option Addr} {c : Nat} {ns : List ByteArray} (n3 : Rd.str.C w A ns) (hl : ns.length ≤ 64) {i : Nat} {s : ByteArray} (hi : ns[i]? = some s) (hnd : ns.Nodup) :
    Calls Try.prog 34 #[.slice A ns.length c, .string s] w fun e w' => e = .returned (.int .i64 i) ∧ w' = w := by
  have hil := (List.getElem?_eq_some_iff.1 hi).1
  have N3 := Lib.hid n3
  have HI := Lib.hid hi
  have HND := Lib.hid hnd
  clear n3 hi hnd
  go_enter Try.func34, Try.ntmps34
  go_wp2_with fail
  go_loopw [5] (fun cnt wr => CntRel w i cnt wr) (fun cnt _ => i - (intOf cnt).toNat)
  case atStart => exact ⟨0, rfl, Nat.zero_le _, rfl⟩
  case round =>
    obtain ⟨k, rfl, hk, rfl⟩ := hrel
    obtain ⟨z, hz⟩ : ∃ z, ns[k]? = some z := ⟨_, List.getElem?_eq_getElem (by omega)⟩
    obtain ⟨ad, eA, q0⟩ := Rd.C.one N3.out hz
    subst eA
    have hki : (k : Int) < ns.length := by omega
    by_cases hlt : k < i
    · have hne : (z.toList == s.toList) = false := by
        cases he : (z.toList == s.toList) with
        | false => rfl
        | true =>
          have e1 : z.toList = s.toList := by simpa using he
          have e2 : z = s := by
            cases z; cases s
            simp only [ByteArray.toList_eq] at e1
            congr 1
            exact Array.toList_inj.1 e1
          rw [e2] at hz
          have h1 := (List.getElem?_eq_some_iff.1 hz)
          have h2 := (List.getElem?_eq_some_iff.1 HI.out)
          obtain ⟨a1, a2⟩ := h1
          obtain ⟨b1, b2⟩ := h2
          exact absurd (a2.trans b2.symm) ((List.pairwise_iff_getElem.1 HND.out) k i a1 b1 hlt)
      clear hz
      go_wp2_with fail
      go_roundw
      case rel => exact ⟨k + 1, by go_num, hlt, rfl⟩
      case measure => simp [intOf]; omega
    · have hke : k = i := by omega
      subst hke
      have e : z = s := by have := HI.out; rw [hz] at this; cases this; rfl
      subst e
      clear hz
      go_wp2_with fail
      go_ret
      exact ⟨rfl, rfl⟩

set_option maxHeartbeats 1000000 in
theorem rsymbol_any (s : Sym) (n : Int) (w : World) : Calls Try.prog 43 #[.agg #[.int .i64 s.name, .int .i64 s.lo, .int .i64 s.hi], .int .i64 n] w fun e w' => e = .returned (.bool (symB s n)) ∧ Below w.heap.size w w' := by
  by_cases hn : s.name = -1
  · have hs : symB s n = (decide (0 ≤ s.lo) && decide (s.lo ≤ s.hi) && decide (s.hi ≤ 255)) := by simp [symB, hn]
    have HS := Lib.hid hs
    rw [hn]
    clear hs hn
    go_enter Try.func43, Try.ntmps43
    go_wp2
    all_goals
      go_ret
      refine ⟨ret_bool ?_, below_alloc' (below_refl w) _⟩
      rw [HS.out, Bool.eq_iff_iff]; simp; omega
  · have hs : symB s n = (decide (0 ≤ s.name) && decide (s.name < n) && decide (s.lo = 0) && decide (s.hi = 0)) := by simp [symB, hn]
    have HS := Lib.hid hs
    have hn' : (s.name == -1) = false := by simpa using hn
    clear hs
    go_enter Try.func43, Try.ntmps43
    go_wp2
    all_goals
      go_ret
      refine ⟨ret_bool ?_, below_alloc' (below_refl w) _⟩
      rw [HS.out, Bool.eq_iff_iff]; simp; omega
end Go.Proofs.Ytmccdakmdcdbeaa
