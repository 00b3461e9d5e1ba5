/-
  G1: lex.letter, more, Name; gram.symbol.
  G2: gram.symbol, rule.
-/
import Derived.Test.YtbidpeggdhkahaaProg
import Derived.Test.YtbidpeggdhkahaaA2
import Derived.WalkSpells
import Derived.Outline
import Derived.Deep.QuietTactic
import Derived.BigQuiet
import Derived.Lib.Hide
import Derived.RegionTactic
import Derived.ChangeAlike
import Derived.WalkLawsBesides
set_option linter.unusedSimpArgs false
set_option linter.unusedVariables false
namespace Go.Proofs.Ytbidpeggdhkahaa
open Go.RowKit

def letterB (c : Int) : Bool := (decide (65 ≤ c) && decide (c ≤ 90)) || (decide (97 ≤ c) && decide (c ≤ 122)) || decide (c = 95)
def moreB (c : Int) : Bool := letterB c || (decide (48 ≤ c) && decide (c ≤ 57))

theorem ret_bool {a b : Bool} (h : a = b) : Ending.returned (.bool a) = Ending.returned (.bool b) := by rw [h]
set_option maxHeartbeats 1000000 in
theorem letter_any (c : Int) (w : World) : Calls Try.prog 73 #[.int .u8 c] w fun e w' => e = .returned (.bool (letterB c)) ∧ w' = w := by
  go_enter Try.func73, Try.ntmps73
  go_wp2
  all_goals
    go_ret
    refine ⟨ret_bool ?_, rfl⟩
    rw [Bool.eq_iff_iff]; simp [letterB]; omega
set_option maxHeartbeats 1000000 in
theorem more_any (c : Int) (w : World) : Calls Try.prog 74 #[.int .u8 c] w fun e w' => e = .returned (.bool (moreB c)) ∧ w' = w := by
  cases hl : letterB c with
  | true =>
    have HL := Lib.hid hl
    go_enter Try.func74, Try.ntmps74
    go_wp2_with (go_at_call 73; refine (letter_any c _).mono ?_; rintro e w' ⟨rfl, rfl⟩; rw [HL.out])
    all_goals
      go_ret
      refine ⟨ret_bool ?_, rfl⟩
      rw [Bool.eq_iff_iff]; simp [moreB, HL.out]
  | false =>
    have HL := Lib.hid hl
    clear hl
    go_enter Try.func74, Try.ntmps74
    go_wp2_with (go_at_call 73; refine (letter_any c _).mono ?_; rintro e w' ⟨rfl, rfl⟩; rw [HL.out])
    all_goals
      go_ret
      refine ⟨ret_bool ?_, rfl⟩
      rw [Bool.eq_iff_iff]; simp [moreB, HL.out]; omega

theorem ba_size (s : ByteArray) : s.toList.length = s.size := by rw [ByteArray.toList_eq]; exact Array.length_toList
theorem ba_empty (s : ByteArray) : s.toList.isEmpty = decide (s.size = 0) := by
  rw [← ba_size]
  cases s.toList <;> simp
def startW : List UInt8 := [115, 116, 97, 114, 116]
def allMore (s : ByteArray) (n : Nat) : Bool := (List.range n).all fun i => moreB (btz s i)
def nameB (s : ByteArray) : Bool := decide (1 ≤ s.size) && decide (s.size ≤ 32) && !(s.toList == startW) && letterB (btz s 0) && allMore s s.size
theorem allMore_succ (s : ByteArray) (n : Nat) : allMore s (n + 1) = (allMore s n && moreB (btz s n)) := by simp [allMore, List.range_succ]
theorem allMore_stop {s : ByteArray} {n m : Nat} (h : allMore s n = false) (hm : n ≤ m) : allMore s m = false := by
  induction hm with
  | refl => exact h
  | step h ih => rw [Nat.succ_eq_add_one, allMore_succ, ih]; rfl
def NameRel (s : ByteArray) (w : World) (cnt : Value) (wr : World) : Prop := ∃ k : Nat, cnt = .int .i64 k ∧ k ≤ s.size ∧ allMore s k = true ∧ wr = w
set_option maxHeartbeats 1000000 in
theorem name_any (s : ByteArray) (w : World) : Calls Try.prog 66 #[.string s] w fun e w' => e = .returned (.bool (nameB s)) ∧ w' = w := by
  by_cases h0 : s.size = 0
  · have hf : nameB s = false := by simp [nameB, h0]
    have HF := Lib.hid hf
    have he : s.toList = [] := by have := ba_size s; rw [h0] at this; exact List.length_eq_zero_iff.1 this
    clear hf
    go_enter Try.func66, Try.ntmps66
    go_wp2
    go_ret
    exact ⟨ret_bool HF.out.symm, rfl⟩
  · have he : ¬ s.toList = [] := by intro h; have := ba_size s; rw [h] at this; exact h0 this.symm
    have he' : s.toList.isEmpty = false := by rw [ba_empty]; simp [h0]
    by_cases h1 : 32 < s.size
    · have hf : nameB s = false := by simp [nameB]; omega
      have HF := Lib.hid hf
      have h1' : (32 : Int) < s.size := by omega
      clear hf
      go_enter Try.func66, Try.ntmps66
      go_wp2
      go_ret
      exact ⟨ret_bool HF.out.symm, rfl⟩
    · have h1' : (s.size : Int) ≤ 32 := by omega
      have h1d : decide ((32 : Int) < s.size) = false := by simp; omega
      by_cases h2 : s.toList = [115, 116, 97, 114, 116]
      · have hf : nameB s = false := by simp [nameB, startW, h2]
        have HF := Lib.hid hf
        clear hf
        go_enter Try.func66, Try.ntmps66
        go_wp2
        go_ret
        exact ⟨ret_bool HF.out.symm, rfl⟩
      · have h2' : (s.toList == [115, 116, 97, 114, 116]) = false := by simpa using h2
        have h2s : (s.toList == startW) = false := h2'
        have hpos : 0 < s.size := by omega
        have hb0 := btz_at s 0
        have HB0 := Lib.hid (show ∀ h : 0 < s.size, ((s[0]'h).toNat : Int) = btz s 0 from fun h => hb0 h)
        clear hb0
        cases h3 : letterB (btz s 0) with
        | false =>
          have hf : nameB s = false := by simp [nameB, h3]
          have HF := Lib.hid hf
          have H3 := Lib.hid h3
          clear hf h3
          go_enter Try.func66, Try.ntmps66
          go_wp2_with (go_at_call 73; rw [HB0.out]; refine (letter_any (btz s 0) _).mono ?_; rintro e w' ⟨rfl, rfl⟩; rw [H3.out])
          go_ret
          exact ⟨ret_bool HF.out.symm, rfl⟩
        | true =>
          have hn : nameB s = allMore s s.size := by simp [nameB, h3, h2s, h1]; omega
          have HN := Lib.hid hn
          have H3 := Lib.hid h3
          clear hn h3
          go_enter Try.func66, Try.ntmps66
          go_wp2_with (go_at_call 73; rw [HB0.out]; refine (letter_any (btz s 0) _).mono ?_; rintro e w' ⟨rfl, hw⟩; obtain rfl := hw.symm; rw [H3.out])
          go_loopw [23] (fun cnt wr => NameRel s w cnt wr) (fun cnt _ => s.size - (intOf cnt).toNat)
          case atStart => exact ⟨0, rfl, Nat.zero_le _, rfl, rfl⟩
          case round =>
            obtain ⟨k, rfl, hk, hall, rfl⟩ := hrel
            have HA := Lib.hid hall
            clear hall
            by_cases hlt : k < s.size
            · have hbk := Lib.hid (show ∀ h : k < s.size, ((s[k]'h).toNat : Int) = btz s k from fun h => btz_at s k h)
              cases hm : moreB (btz s k) with
              | false =>
                have HF := Lib.hid (show nameB s = false by rw [HN.out]; exact allMore_stop (n := k + 1) (by rw [allMore_succ, hm, Bool.and_false]) hlt)
                have HM := Lib.hid hm
                clear hm
                go_wp2_with (go_at_call 74; rw [hbk.out]; refine (more_any (btz s k) _).mono ?_; rintro e w' ⟨rfl, rfl⟩; rw [HM.out])
                go_ret
                exact ⟨ret_bool HF.out.symm, rfl⟩
              | true =>
                have HM := Lib.hid hm
                clear hm
                go_wp2_with (go_at_call 74; rw [hbk.out]; refine (more_any (btz s k) _).mono ?_; rintro e w' ⟨rfl, rfl⟩; rw [HM.out])
                go_roundw
                case rel => exact ⟨k + 1, by go_num, hlt, by rw [allMore_succ, HA.out, HM.out]; rfl, rfl⟩
                case measure => simp [intOf]; omega
            · have hke : k = s.size := by omega
              go_wp2
              go_ret
              exact ⟨ret_bool (by rw [HN.out, ← hke, HA.out]), rfl⟩
end Go.Proofs.Ytbidpeggdhkahaa

set_option linter.unusedSimpArgs false
set_option linter.unusedVariables false
namespace Go.Proofs.Ytbidpeggdhkahaa
open Go.RowKit

def symB (s : Sym) (n : Int) : Bool := if s.name = -1 then decide (0 ≤ s.lo) && decide (s.lo ≤ s.hi) && decide (s.hi ≤ 255) else decide (0 ≤ s.name) && decide (s.name < n) && decide (s.lo = 0) && decide (s.hi = 0)

set_option maxHeartbeats 1000000 in
theorem symbol_any (s : Sym) (n : Int) (w : World) : Calls Try.prog 67 #[.agg #[.int .i64 s.name, .int .i64 s.lo, .int .i64 s.hi], .int .i64 n] w fun e w' => e = .returned (.bool (symB s n)) ∧ Below w.heap.size w w' := by
  by_cases hn : s.name = -1
  · have hs : symB s n = (decide (0 ≤ s.lo) && decide (s.lo ≤ s.hi) && decide (s.hi ≤ 255)) := by simp [symB, hn]
    have HS := Lib.hid hs
    rw [hn]
    clear hs hn
    go_enter Try.func67, Try.ntmps67
    go_wp2
    all_goals
      go_ret
      refine ⟨ret_bool ?_, below_alloc' (below_refl w) _⟩
      rw [HS.out, Bool.eq_iff_iff]; simp; omega
  · have hs : symB s n = (decide (0 ≤ s.name) && decide (s.name < n) && decide (s.lo = 0) && decide (s.hi = 0)) := by simp [symB, hn]
    have HS := Lib.hid hs
    have hn' : (s.name == -1) = false := by simpa using hn
    clear hs
    go_enter Try.func67, Try.ntmps67
    go_wp2
    all_goals
      go_ret
      refine ⟨ret_bool ?_, below_alloc' (below_refl w) _⟩
      rw [HS.out, Bool.eq_iff_iff]; simp; omega
def conjB (n : Int) (y : Conj) : Bool := decide (y.seq.length ≤ 64) && y.seq.all (fun s => symB s n)
def ruleB (x : Rul) (n : Int) : Bool := decide (1 ≤ x.conj.length) && decide (x.conj.length ≤ 8) && x.conj.all (conjB n)
def sSum (cs : List Conj) : Nat → Nat
  | 0 => 0
  | n + 1 => sSum cs n + (match cs[n]? with | some y => y.seq.length | none => 0)
def ruleSum (x : Rul) (n : Int) : Int := if ruleB x n then sSum x.conj x.conj.length else 0
theorem ruleSum_no {x : Rul} {n : Int} (h : ruleB x n = false) : Ending.returned (.tuple #[.int .i64 (ruleSum x n), .bool (ruleB x n)]) = .returned (.tuple #[.int .i64 0, .bool false]) := by simp [ruleSum, h]
theorem ruleSum_yes {x : Rul} {n : Int} (h : ruleB x n = true) : Ending.returned (.tuple #[.int .i64 (ruleSum x n), .bool (ruleB x n)]) = .returned (.tuple #[.int .i64 (sSum x.conj x.conj.length), .bool true]) := by simp [ruleSum, h]
theorem sSum_succ {cs : List Conj} {k : Nat} {y : Conj} (h : cs[k]? = some y) : sSum cs (k + 1) = sSum cs k + y.seq.length := by simp [sSum, h]
theorem all_bad {α : Type} {l : List α} {p : α → Bool} {k : Nat} {y : α} (hx : l[k]? = some y) (hy : p y = false) : l.all p = false := by
  rw [List.all_eq_false]
  exact ⟨y, List.mem_of_getElem? hx, by simp [hy]⟩
theorem all_take {α : Type} {l : List α} {p : α → Bool} {k : Nat} {y : α} (hx : l[k]? = some y) : (l.take (k + 1)).all p = ((l.take k).all p && p y) := by
  rw [List.take_add_one, hx]
  simp
def RuleRel1 (w : World) (x : Rul) (n : Int) (num cnt : Value) (wr : World) : Prop :=
  ∃ k : Nat, cnt = .int .i64 k ∧ k ≤ x.conj.length ∧ num = .int .i64 (sSum x.conj k) ∧ sSum x.conj k ≤ 64 * k ∧ (x.conj.take k).all (conjB n) = true ∧ Below w.heap.size w wr
def RuleRel2 (wb : World) (y : Conj) (n : Int) (cnt : Value) (wr : World) : Prop :=
  ∃ q : Nat, cnt = .int .i64 q ∧ q ≤ y.seq.length ∧ (y.seq.take q).all (fun s => symB s n) = true ∧ Below wb.heap.size wb wr

set_option maxRecDepth 100000 in
set_option maxHeartbeats 2000000 in
theorem gruled {w : World} {x : Rul} {n : Int} {p : Addr} {A1 : Option Addr} {c1 : Nat} (hp : w.cell? ⟨p.block, p.off + 1, none⟩ = some (.slice A1 x.conj.length c1)) (hC : conjRd.C w A1 x.conj) (hc : x.conj.length ≤ 9223372036854775807) :
    Calls Try.prog 54 #[.pointer (some p), .int .i64 n] w fun e w' => e = .returned (.tuple #[.int .i64 (ruleSum x n), .bool (ruleB x n)]) ∧ Below w.heap.size w w' := by
  by_cases h1 : x.conj.length < 1
  · have hf : ruleB x n = false := by simp [ruleB]; omega
    have HF := Lib.hid hf
    have h1' : (x.conj.length : Int) < 1 := by omega
    clear hf
    go_enter Try.func54, Try.ntmps54
    go_wp2
    go_ret2
    exact ⟨by rw [ruleSum_no HF.out]; rfl, below_refl _⟩
  · have h1' : decide ((x.conj.length : Int) < 1) = false := by simp; omega
    by_cases h2 : 8 < x.conj.length
    · have hf : ruleB x n = false := by simp [ruleB]; omega
      have HF := Lib.hid hf
      have h2' : (8 : Int) < x.conj.length := by omega
      clear hf
      go_enter Try.func54, Try.ntmps54
      go_wp2
      go_ret2
      exact ⟨by rw [ruleSum_no HF.out]; rfl, below_refl _⟩
    · have h2' : decide ((8 : Int) < x.conj.length) = false := by simp; omega
      have HN := Lib.hid (show ruleB x n = x.conj.all (conjB n) by simp [ruleB, h2]; omega)
      go_enter Try.func54, Try.ntmps54
      go_wp2_with fail
      go_loopw [6, 30] (fun num cnt wr => RuleRel1 w x n num cnt wr) (fun _ cnt _ => x.conj.length - (intOf cnt).toNat)
      case atStart => exact ⟨0, rfl, Nat.zero_le _, rfl, Nat.le_refl _, rfl, below_refl _⟩
      case round =>
        obtain ⟨k, rfl, hk, rfl, hs, hall, hb⟩ := hrel
        have HB := Lib.hid hb
        have HA := Lib.hid hall
        clear hb hall
        by_cases hlt : k < x.conj.length
        · obtain ⟨y, hy⟩ : ∃ y, x.conj[k]? = some y := ⟨_, List.getElem?_eq_getElem hlt⟩
          obtain ⟨ad, A2, c2, eA, -, q0, q1, l5, l6, hSS⟩ := conj_at (hC.mono HB.out) hy
          subst eA
          have hki : (k : Int) < x.conj.length := by omega
          have HY := Lib.hid hy
          have HSS := Lib.hid hSS
          clear hy hSS
          have hbc := below_alloc' (below_refl wr) (Obj.cells #[Value.bool y.neg, Value.slice A2 y.seq.length c2] 32)
          have B8 := heap_alloc_new wr (Obj.cells #[Value.bool y.neg, Value.slice A2 y.seq.length c2] 32)
          by_cases h3 : 64 < y.seq.length
          · have hf : ruleB x n = false := by rw [HN.out]; exact all_bad HY.out (by simp [conjB]; omega)
            have HF := Lib.hid hf
            have HBC := Lib.hid hbc
            have h3' : (64 : Int) < y.seq.length := by omega
            clear hf hbc B8
            go_wp2_with fail
            go_ret2
            exact ⟨by rw [ruleSum_no HF.out]; rfl, below_then HB.out HBC.out⟩
          · have h3' : decide ((64 : Int) < y.seq.length) = false := by simp; omega
            have HBC := Lib.hid hbc
            have B81 := Lib.hid B8
            clear hbc B8
            go_wp2_with fail
            generalize wr.alloc (Obj.cells #[Value.bool y.neg, Value.slice A2 y.seq.length c2] 32) = wb at HBC B81 ⊢
            obtain ⟨wo, rfl⟩ : ∃ wo : World, wo = wr := ⟨_, rfl⟩
            go_loopw [41] (fun cnt wr => RuleRel2 wb y n cnt wr) (fun cnt _ => y.seq.length - (intOf cnt).toNat)
            case atStart => exact ⟨0, rfl, Nat.zero_le _, rfl, below_refl _⟩
            case round =>
              obtain ⟨q, rfl, hq, hall, hb⟩ := hrel
              have HB2 := Lib.hid hb
              have HA2 := Lib.hid hall
              clear hb hall
              by_cases hltq : q < y.seq.length
              · obtain ⟨s, hsy⟩ : ∃ s, y.seq[q]? = some s := ⟨_, List.getElem?_eq_getElem hltq⟩
                obtain ⟨ad2, eA, -, s0, s1, s2⟩ := sym_at ((HSS.out.mono HBC.out).mono HB2.out) hsy
                subst eA
                have hqi : (q : Int) < y.seq.length := by omega
                have HSY := Lib.hid hsy
                clear hsy
                have hba := below_alloc' (below_refl wr) (Obj.cells #[Value.int .i64 s.name, Value.int .i64 s.lo, Value.int .i64 s.hi] 44)
                have HBA := Lib.hid hba
                clear hba
                go_wp2_with fail
                generalize wr.alloc (Obj.cells #[Value.int .i64 s.name, Value.int .i64 s.lo, Value.int .i64 s.hi] 44) = wa at HBA ⊢
                refine (symbol_any s n _).mono ?_
                rintro e w5 ⟨rfl, hb5⟩
                have HB5 := Lib.hid hb5
                clear hb5
                cases hsb : symB s n with
                | false =>
                  have hf : ruleB x n = false := by rw [HN.out]; exact all_bad HY.out (by simp only [conjB]; rw [all_bad HSY.out hsb]; simp)
                  have HF := Lib.hid hf
                  clear hf
                  go_wp2_with fail
                  go_ret2
                  exact ⟨by rw [ruleSum_no HF.out]; rfl, below_then (below_then (below_then HB.out HBC.out) HB2.out) (below_then HBA.out HB5.out)⟩
                | true =>
                  have HSB := Lib.hid hsb
                  go_wp2_with fail
                  go_roundw
                  case rel => exact ⟨q + 1, by go_num, hltq, by rw [all_take HSY.out, HA2.out, HSB.out]; rfl, below_then HB2.out (below_then HBA.out HB5.out)⟩
                  case measure => simp [intOf]; omega
              · have hqe : q = y.seq.length := by omega
                have B9 := blk_below B81.out HB2.out
                have x1 := blk_cell B9 1
                have hsk := sSum_succ HY.out
                have hcb : conjB n y = true := by
                  have := HA2.out
                  rw [hqe, List.take_length] at this
                  simp [conjB, this]
                  omega
                have HCB := Lib.hid hcb
                have HSK := Lib.hid hsk
                clear B9 hcb hsk
                go_wp2_with fail
                go_roundw
                case rel => exact ⟨k + 1, by go_num, hlt, by rw [HSK.out]; go_num, by rw [HSK.out]; omega, by rw [all_take HY.out, HA.out, HCB.out]; rfl, below_then (below_then HB.out HBC.out) HB2.out⟩
                case measure => simp [intOf]; omega
        · have hke : k = x.conj.length := by omega
          have hf : ruleB x n = true := by rw [HN.out]; have := HA.out; rw [hke, List.take_length] at this; exact this
          have HF := Lib.hid hf
          clear hf
          go_wp2
          go_ret2
          exact ⟨by rw [ruleSum_yes HF.out, ← hke]; rfl, HB.out⟩
end Go.Proofs.Ytbidpeggdhkahaa
