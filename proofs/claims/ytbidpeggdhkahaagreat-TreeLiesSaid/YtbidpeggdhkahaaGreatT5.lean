/-
  T4: templeref1.May of any grammar.
  T5: templeref1.May of any grammar: it says mayB.
-/
import Derived.Test.YtbidpeggdhkahaaGreatT2
import Derived.Test.YtbidpeggdhkahaaGreatA7
import Derived.Test.YtbidpeggdhkahaaGreatU1
set_option linter.unusedSimpArgs false
set_option linter.unusedVariables false
namespace Go.Proofs.YtbidpeggdhkahaaGreat
open Go.RowKit

def MoreTo (s : ByteArray) (w : World) (cnt : Value) (wr : World) : Prop := ∃ k : Nat, cnt = .int .i64 k ∧ k ≤ s.size ∧ allMore s k = true ∧ wr = w
set_option maxHeartbeats 4000000 in
theorem rname_all (s : ByteArray) (w : World) : Calls Tryz.prog 85 #[.string s] w fun e w' => e = .returned (.bool (nameB s)) ∧ w' = w := by
  by_cases h0 : 1 ≤ s.size
  case neg =>
    have HZ := Lib.hid (show nameB s = false by unfold nameB; rw [decide_eq_false h0]; rfl)
    have d0 : decide ((s.size : Int) < 1) = true := by simp; omega
    clear h0
    go_enter Tryz.func85, Tryz.ntmps85
    go_wp2_with fail
    go_ret
    exact ⟨by rw [HZ.out]; rfl, rfl⟩
  have d0 : decide ((s.size : Int) < 1) = false := by simp; omega
  by_cases h1 : s.size ≤ 32
  case neg =>
    have HZ := Lib.hid (show nameB s = false by unfold nameB; rw [decide_eq_false h1]; simp)
    have d1 : decide ((32 : Int) < s.size) = true := by simp; omega
    clear h0 h1
    go_enter Tryz.func85, Tryz.ntmps85
    go_wp2_with fail
    go_ret
    exact ⟨by rw [HZ.out]; rfl, rfl⟩
  have d1 : decide ((32 : Int) < s.size) = false := by simp; omega
  cases he' : (s.toList == [115, 116, 97, 114, 116]) with
  | true =>
    have HZ := Lib.hid (show nameB s = false by unfold nameB; rw [show (s.toList == startW) = true from he']; simp)
    go_enter Tryz.func85, Tryz.ntmps85
    go_wp2_with fail
    go_ret
    exact ⟨by rw [HZ.out]; rfl, rfl⟩
  | false =>
    have hpos : 0 < s.size := by omega
    have hb0 := btz_at s 0
    have HB0 := Lib.hid (show ∀ h : 0 < s.size, ((s[0]'h).toNat : Int) = btz s 0 from fun h => hb0 h)
    have HN := Lib.hid (show nameB s = (letterB (btz s 0) && allMore s s.size) by unfold nameB; rw [decide_eq_true h0, decide_eq_true h1, show (s.toList == startW) = false from he']; simp)
    clear hb0
    cases h3 : letterB (btz s 0) with
    | false =>
      have H3 := Lib.hid h3
      have HZ := Lib.hid (show nameB s = false by rw [HN.out, h3]; rfl)
      clear h3
      go_enter Tryz.func85, Tryz.ntmps85
      go_wp2_with (go_at_call 100; rw [HB0.out]; refine (rletter_any (btz s 0) _).mono ?_; rintro e w' ⟨rfl, hw⟩; obtain rfl := hw.symm; rw [H3.out])
      go_ret
      exact ⟨by rw [HZ.out]; rfl, rfl⟩
    | true =>
      have H3 := Lib.hid h3
      have HN2 := Lib.hid (show nameB s = allMore s s.size by rw [HN.out, h3]; rfl)
      clear h3
      go_enter Tryz.func85, Tryz.ntmps85
      go_wp2_with (go_at_call 100; rw [HB0.out]; refine (rletter_any (btz s 0) _).mono ?_; rintro e w' ⟨rfl, hw⟩; obtain rfl := hw.symm; rw [H3.out])
      go_loopw [3] (fun cnt wr => MoreTo s w cnt wr) (fun cnt _ => s.size - (intOf cnt).toNat)
      case atStart => exact ⟨0, rfl, Nat.zero_le _, rfl, rfl⟩
      case round =>
        obtain ⟨k, rfl, hk, hall, rfl⟩ := hrel
        have HA := Lib.hid hall
        clear hall
        by_cases hlt : k < s.size
        · have hbk := Lib.hid (show ∀ h : k < s.size, ((s[k]'h).toNat : Int) = btz s k from fun h => btz_at s k h)
          cases hl : letterB (btz s k) with
          | true =>
            have HL := Lib.hid hl
            have HM := Lib.hid (show allMore s (k + 1) = true by rw [allMore_succ, HA.out]; unfold moreB; rw [hl]; rfl)
            clear hl
            go_wp2_with (go_at_call 100; rw [hbk.out]; refine (rletter_any (btz s k) _).mono ?_; rintro e w' ⟨rfl, hw⟩; obtain rfl := hw.symm; rw [HL.out])
            go_roundw
            case rel => exact ⟨k + 1, by go_num, hlt, HM.out, rfl⟩
            case measure => simp [intOf]; omega
          | false =>
            have hmd : moreB (btz s k) = digitB (btz s k) := by unfold moreB; rw [hl]; rfl
            cases hd : digitB (btz s k) with
            | true =>
              have HM := Lib.hid (show allMore s (k + 1) = true by rw [allMore_succ, HA.out, hmd, hd]; rfl)
              have HL := Lib.hid hl
              have HD := Lib.hid hd
              clear hl hd hmd
              go_wp2_with (first
                | (go_at_call 100; rw [hbk.out]; refine (rletter_any (btz s k) _).mono ?_; rintro e w' ⟨rfl, hw⟩; obtain rfl := hw.symm; rw [HL.out])
                | (go_at_call 101; rw [hbk.out]; refine (rdigit_any (btz s k) _).mono ?_; rintro e w' ⟨rfl, hw⟩; obtain rfl := hw.symm; rw [HD.out])
                | fail)
              go_roundw
              case rel => exact ⟨k + 1, by go_num, hlt, HM.out, rfl⟩
              case measure => simp [intOf]; omega
            | false =>
              have HZ := Lib.hid (show nameB s = false by rw [HN2.out]; exact allMore_stop (n := k + 1) (by rw [allMore_succ, HA.out, hmd, hd]; rfl) hlt)
              have HL := Lib.hid hl
              have HD := Lib.hid hd
              clear hl hd hmd
              go_wp2_with (first
                | (go_at_call 100; rw [hbk.out]; refine (rletter_any (btz s k) _).mono ?_; rintro e w' ⟨rfl, hw⟩; obtain rfl := hw.symm; rw [HL.out])
                | (go_at_call 101; rw [hbk.out]; refine (rdigit_any (btz s k) _).mono ?_; rintro e w' ⟨rfl, hw⟩; obtain rfl := hw.symm; rw [HD.out])
                | fail)
              go_ret
              exact ⟨by rw [HZ.out]; rfl, rfl⟩
        · have hke : k = s.size := by omega
          have HZ := Lib.hid (show nameB s = true by rw [HN2.out, ← hke]; exact HA.out)
          clear hke
          go_wp2_with fail
          go_ret
          exact ⟨by rw [HZ.out]; rfl, rfl⟩
theorem str_eq {z s : ByteArray} (he : (z.toList == s.toList) = true) : z = s := by
  have e1 : z.toList = s.toList := by simpa using he
  cases z; cases s
  simp only [ByteArray.toList_eq] at e1
  congr 1
  exact Array.toList_inj.1 e1
set_option maxHeartbeats 2000000 in
theorem rfind_first {w : World} {A : Option Addr} {c : Nat} {ns : List ByteArray} (n3 : Rd.str.C w A ns) (hl : ns.length ≤ 64) {i : Nat} {s : ByteArray} (hi : ns[i]? = some s) (hf : ∀ k, k < i → ns[k]? ≠ some s) :
    Calls Tryz.prog 86 #[.slice A ns.length c, .string s] w fun e w' => e = .returned (.int .i64 i) ∧ w' = w := by
  have hil := (List.getElem?_eq_some_iff.1 hi).1
  have N3 := Lib.hid n3
  have HI := Lib.hid hi
  have HF := Lib.hid hf
  clear n3 hi hf
  go_enter Tryz.func86, Tryz.ntmps86
  go_wp2_with fail
  go_loopw [5] (fun cnt wr => CntRel w i cnt wr) (fun cnt _ => i - (intOf cnt).toNat)
  case atStart => exact ⟨0, rfl, Nat.zero_le _, rfl⟩
  case round =>
    obtain ⟨k, rfl, hk, rfl⟩ := hrel
    obtain ⟨z, hz⟩ : ∃ z, ns[k]? = some z := ⟨_, List.getElem?_eq_getElem (by omega)⟩
    obtain ⟨ad, eA, q0⟩ := Rd.C.one N3.out hz
    subst eA
    have hki : (k : Int) < ns.length := by omega
    by_cases hlt : k < i
    · have hne : (z.toList == s.toList) = false := by
        cases he : (z.toList == s.toList) with
        | false => rfl
        | true => exact absurd (by rw [hz, str_eq he]) (HF.out k hlt)
      clear hz
      go_wp2_with fail
      go_roundw
      case rel => exact ⟨k + 1, by go_num, hlt, rfl⟩
      case measure => simp [intOf]; omega
    · have hke : k = i := by omega
      subst hke
      have e : z = s := by have := HI.out; rw [hz] at this; cases this; rfl
      subst e
      clear hz
      go_wp2_with fail
      go_ret
      exact ⟨rfl, rfl⟩
theorem first_of {ns : List ByteArray} {i : Nat} {s : ByteArray} (hi : ns[i]? = some s) : ∃ f, f ≤ i ∧ ns[f]? = some s ∧ ∀ k, k < f → ns[k]? ≠ some s := by
  induction i using Nat.strongRecOn with
  | _ i ih =>
    by_cases h : ∃ k, k < i ∧ ns[k]? = some s
    · obtain ⟨k, hk, hs⟩ := h
      obtain ⟨f, h1, h2, h3⟩ := ih k hk hs
      exact ⟨f, by omega, h2, h3⟩
    · exact ⟨i, Nat.le_refl _, hi, fun k hk hs => h ⟨k, hk, hs⟩⟩

theorem any_bad {α : Type} {l : List α} {p : α → Bool} {k : Nat} {y : α} (hx : l[k]? = some y) (hy : p y = false) : l.all p = false := all_bad hx hy
def GoodTo {α : Type} (l : List α) (p : α → Bool) (w : World) (cnt : Value) (wr : World) : Prop := ∃ k : Nat, cnt = .int .i64 k ∧ k ≤ l.length ∧ (l.take k).all p = true ∧ Below w.heap.size w wr
theorem all_take2 {α : Type} {l : List α} {p : α → Bool} {k : Nat} {y : α} (hx : l[k]? = some y) (h1 : (l.take k).all p = true) (h2 : p y = true) : (l.take (k + 1)).all p = true := by
  rw [take_snoc hx, List.all_append, h1]; simp [h2]
def RSumTo (w : World) (x : Rul) (n : Int) (num cnt : Value) (wr : World) : Prop :=
  ∃ k : Nat, cnt = .int .i64 k ∧ k ≤ x.conj.length ∧ num = .int .i64 (sSum x.conj k) ∧ sSum x.conj k ≤ 64 * k ∧ (x.conj.take k).all (conjB n) = true ∧ Below w.heap.size w wr
/-- What ruleMay answers. -/
def RulePost (w : World) (x : Rul) (n : Int) (e : Ending) (w' : World) : Prop := e = .returned (.tuple #[.int .i64 (ruleSum x n), .bool (ruleB x n)]) ∧ Below w.heap.size w w'

set_option maxRecDepth 100000 in
set_option maxHeartbeats 4000000 in
theorem rrule_all {w : World} {x : Rul} {n : Int} {A1 : Option Addr} {c1 : Nat} (hC : conjRd.C w A1 x.conj) :
    Calls Tryz.prog 87 #[.agg #[.int .i64 x.head, .slice A1 x.conj.length c1], .int .i64 n] w (RulePost w x n) := by
  have hb0 : Below w.heap.size w (w.alloc (Obj.cells #[Value.int .i64 x.head, Value.slice A1 x.conj.length c1] 47)) := below_alloc' (below_refl w) _
  have B0 := heap_alloc_new w (Obj.cells #[Value.int .i64 x.head, Value.slice A1 x.conj.length c1] 47)
  have HC := Lib.hid (hC.mono hb0)
  clear hC
  by_cases h1 : 1 ≤ x.conj.length
  case neg =>
    have d1 : decide ((x.conj.length : Int) < 1) = true := by simp; omega
    have HZ := Lib.hid (show ruleB x n = false by unfold ruleB; rw [decide_eq_false h1]; rfl)
    have HB0 := Lib.hid hb0
    clear h1 hb0 B0
    go_enter Tryz.func87, Tryz.ntmps87
    go_wp2_with fail
    go_ret2
    exact ⟨(ruleSum_no HZ.out).symm, HB0.out⟩
  have d1 : decide ((x.conj.length : Int) < 1) = false := by simp; omega
  by_cases h2 : x.conj.length ≤ 8
  case neg =>
    have d2 : decide ((8 : Int) < x.conj.length) = true := by simp; omega
    have HZ := Lib.hid (show ruleB x n = false by unfold ruleB; rw [decide_eq_false h2]; simp)
    have HB0 := Lib.hid hb0
    clear h1 h2 hb0 B0
    go_enter Tryz.func87, Tryz.ntmps87
    go_wp2_with fail
    go_ret2
    exact ⟨(ruleSum_no HZ.out).symm, HB0.out⟩
  have d2 : decide ((8 : Int) < x.conj.length) = false := by simp; omega
  have HRB := Lib.hid (show ruleB x n = x.conj.all (conjB n) by unfold ruleB; rw [decide_eq_true h1, decide_eq_true h2]; rfl)
  go_enter Tryz.func87, Tryz.ntmps87
  go_wp2_with fail
  obtain ⟨bx, hbx⟩ : ∃ bx, bx = w.heap.size := ⟨_, rfl⟩
  rw [← hbx] at B0 ⊢
  generalize w.alloc (Obj.cells #[Value.int .i64 x.head, Value.slice A1 x.conj.length c1] 47) = w0 at hb0 B0 HC ⊢
  have HB0 := Lib.hid hb0
  have HX := Lib.hid B0
  clear hb0 B0 hbx
  go_loopw [6, 7] (fun num cnt wr => RSumTo w0 x n num cnt wr) (fun _ cnt _ => x.conj.length - (intOf cnt).toNat)
  case atStart => exact ⟨0, rfl, Nat.zero_le _, rfl, Nat.le_refl _, rfl, below_refl _⟩
  case round =>
    obtain ⟨k, rfl, hk, rfl, hs, hall, hb⟩ := hrel
    have HB := Lib.hid hb
    have HAL := Lib.hid hall
    have z1 : wr.cell? ⟨bx, 1, none⟩ = some (.slice A1 x.conj.length c1) := blk_cell (blk_below HX.out hb) 1
    clear hb hall
    by_cases hlt : k < x.conj.length
    · obtain ⟨y, hy⟩ : ∃ y, x.conj[k]? = some y := ⟨_, List.getElem?_eq_getElem hlt⟩
      obtain ⟨ad, A2, c2, eA, -, -, q1, l5, l6, hSS⟩ := conj_at (HC.out.mono HB.out) hy
      subst eA
      have hki : (k : Int) < x.conj.length := by omega
      have HY := Lib.hid hy
      have HSS := Lib.hid hSS
      have HSK := Lib.hid (sSum_succ hy)
      clear hy hSS
      by_cases h4 : y.seq.length ≤ 64
      case neg =>
        have d3 : decide ((64 : Int) < y.seq.length) = true := by simp; omega
        have HZ := Lib.hid (show ruleB x n = false by rw [HRB.out]; exact all_bad HY.out (by unfold conjB; rw [decide_eq_false h4]; rfl))
        clear h4
        go_wp2_with fail
        go_ret2
        exact ⟨(ruleSum_no HZ.out).symm, below_trans HB0.out HB.out⟩
      have d3 : decide ((64 : Int) < y.seq.length) = false := by simp; omega
      have HCJ := Lib.hid (show conjB n y = y.seq.all (fun s => symB s n) by unfold conjB; rw [decide_eq_true h4]; rfl)
      go_wp2_with fail
      obtain ⟨wo, rfl⟩ : ∃ wo : World, wo = wr := ⟨_, rfl⟩
      go_loopw [9] (fun cnt wr' => GoodTo y.seq (fun s => symB s n) wo cnt wr') (fun cnt _ => y.seq.length - (intOf cnt).toNat)
      case atStart => exact ⟨0, rfl, Nat.zero_le _, rfl, below_refl _⟩
      case round =>
        clear z1 q1
        obtain ⟨q, rfl, hq, hall, hb⟩ := hrel
        have HB2 := Lib.hid hb
        have HA2 := Lib.hid hall
        clear hb hall
        by_cases hltq : q < y.seq.length
        · obtain ⟨s, hsy⟩ : ∃ s, y.seq[q]? = some s := ⟨_, List.getElem?_eq_getElem hltq⟩
          obtain ⟨ad2, eA, -, s0, s1, s2⟩ := sym_at (HSS.out.mono HB2.out) hsy
          subst eA
          have hqi : (q : Int) < y.seq.length := by omega
          have HSY := Lib.hid hsy
          cases hsb : symB s n with
          | false =>
            have HSB := Lib.hid hsb
            have HZ := Lib.hid (show ruleB x n = false by rw [HRB.out]; exact all_bad HY.out (by rw [HCJ.out]; exact all_bad (p := fun s => symB s n) hsy hsb))
            clear hsy hsb
            go_wp2_with (first
              | (go_at_call 102; refine (rsymbol_any s n _).mono ?_; rintro e w5 ⟨rfl, hb5⟩; rw [HSB.out]; have HB5 := Lib.hid hb5; clear hb5)
              | fail)
            go_ret2
            exact ⟨(ruleSum_no HZ.out).symm, below_trans HB0.out (below_trans HB.out (below_trans HB2.out HB5.out))⟩
          | true =>
            have HSB := Lib.hid hsb
            clear hsy hsb
            go_wp2_with (first
              | (go_at_call 102; refine (rsymbol_any s n _).mono ?_; rintro e w5 ⟨rfl, hb5⟩; rw [HSB.out]; have HB5 := Lib.hid hb5; clear hb5)
              | fail)
            go_roundw
            case rel => exact ⟨q + 1, by go_num, by omega, all_take2 HSY.out HA2.out HSB.out, below_trans HB2.out HB5.out⟩
            case measure => simp [intOf]; omega
        · have hqe : q = y.seq.length := by omega
          subst hqe
          have e1 : IntKind.i64.wrap ((sSum x.conj k : Int) + (y.seq.length : Int)) = ((sSum x.conj k + y.seq.length : Nat) : Int) := by rw [IntWalk.i64_in _ (by omega)]; omega
          have HN := Lib.hid (show (x.conj.take (k + 1)).all (conjB n) = true from all_take2 HY.out HAL.out (by rw [HCJ.out]; have := HA2.out; rw [List.take_length] at this; exact this))
          go_wp2_with fail
          go_roundw
          case rel => exact ⟨k + 1, by go_num, by omega, by rw [HSK.out]; go_num, by rw [HSK.out]; omega, HN.out, below_trans HB.out HB2.out⟩
          case measure => simp [intOf]; omega
    · have hke : k = x.conj.length := by omega
      subst hke
      have HZ := Lib.hid (show ruleB x n = true by rw [HRB.out]; have := HAL.out; rw [List.take_length] at this; exact this)
      go_wp2_with fail
      go_ret2
      exact ⟨(ruleSum_yes HZ.out).symm, below_trans HB0.out HB.out⟩

/-! May. -/
/-- What a grammar's rules must be, up to a rule. -/
def stepR (rs : List Rul) (n : Int) (k : Nat) : Bool := match rs[k]? with
  | none => false
  | some x => ruleB x n && (decide (0 ≤ x.head) && (decide (hdAt rs k ≤ x.head) && (decide (x.head ≤ hdAt rs k + 1) && decide (x.head < n))))
theorem tot_mono (rs : List Rul) {a b : Nat} (h : a ≤ b) : tot rs a ≤ tot rs b := by
  induction h with
  | refl => exact Nat.le_refl _
  | step h ih => exact Nat.le_trans ih (Nat.le_add_right _ _)
theorem tot_le {rs : List Rul} {n : Int} : ∀ k, k ≤ rs.length → (List.range k).all (stepR rs n) = true → tot rs k ≤ 512 * k := by
  intro k
  induction k with
  | zero => intro _ _; exact Nat.le_refl _
  | succ k ih =>
    intro hk h
    rw [range_succ_all, Bool.and_eq_true] at h
    have h1 := ih (by omega) h.1
    have h2 := h.2
    unfold stepR at h2
    unfold tot
    cases hx : rs[k]? with
    | none => rw [hx] at h2; cases h2
    | some x =>
      rw [hx] at h2
      simp only [Bool.and_eq_true] at h2
      have := sSum_le h2.1
      simp only
      omega
/-- Whether a grammar may be, said another way: as the reference does. -/
theorem mayB_eq {G : Gram} : mayB G = (namesB G.names && (decide (0 ≤ G.start) && (decide (G.start < G.names.length) && (decide (1 ≤ G.rules.length) && (decide (G.rules.length ≤ 256) && ((List.range G.rules.length).all (stepR G.rules G.names.length) && (decide (hdAt G.rules G.rules.length = (G.names.length : Int) - 1) && decide (tot G.rules G.rules.length ≤ 1024)))))))) := by
  rw [Bool.eq_iff_iff]
  constructor
  · intro h
    have M := mayG h
    simp only [mayB, Bool.and_eq_true, decide_eq_true_eq] at h
    obtain ⟨⟨⟨⟨⟨⟨⟨m1, m5⟩, m6⟩, m7⟩, m8⟩, m9⟩, m10⟩, m11⟩ := h
    simp only [Bool.and_eq_true, decide_eq_true_eq, List.all_eq_true, List.mem_range]
    refine ⟨m1, m5, m6, m7, m8, fun r hr => ?_, m11, M.tot⟩
    have hst := stepsB_at m9 hr
    unfold stepB at hst
    unfold stepR
    cases hx : G.rules[r]? with
    | none => rw [hx] at hst; cases hst
    | some x =>
      rw [hx] at hst
      simp only [Bool.and_eq_true, decide_eq_true_eq] at hst ⊢
      have := M.head r x hx
      exact ⟨hst.1.1.1, this.1, hst.1.1.2, hst.1.2, this.2⟩
  · intro h
    simp only [Bool.and_eq_true, decide_eq_true_eq] at h
    obtain ⟨m1, m5, m6, m7, m8, m9, m11, m12⟩ := h
    simp only [mayB, Bool.and_eq_true, decide_eq_true_eq]
    refine ⟨⟨⟨⟨⟨⟨⟨m1, m5⟩, m6⟩, m7⟩, m8⟩, ?_⟩, ?_⟩, m11⟩
    · unfold stepsB
      rw [List.all_eq_true] at m9 ⊢
      intro r hr
      have h1 := m9 r hr
      unfold stepR at h1
      unfold stepB
      cases hx : G.rules[r]? with
      | none => rw [hx] at h1; cases h1
      | some x =>
        rw [hx] at h1
        simp only [Bool.and_eq_true, decide_eq_true_eq] at h1 ⊢
        have := tot_mono G.rules (show r + 1 ≤ G.rules.length from List.mem_range.1 hr)
        exact ⟨⟨⟨h1.1, h1.2.2.1⟩, h1.2.2.2.1⟩, by omega⟩
    · rw [List.all_eq_true] at m9
      have h1 := m9 0 (List.mem_range.2 (by omega))
      unfold stepR at h1
      cases hx : G.rules[0]? with
      | none => rw [hx] at h1; cases h1
      | some x =>
        rw [hx] at h1
        simp only [Bool.and_eq_true, decide_eq_true_eq] at h1
        have h2 : hdAt G.rules 0 = -1 := rfl
        rw [h2] at h1
        have h3 : hdAt G.rules 1 = x.head := by simp [hdAt, hx]
        rw [h3]
        omega
end Go.Proofs.YtbidpeggdhkahaaGreat

set_option linter.unusedSimpArgs false
set_option linter.unusedVariables false
namespace Go.Proofs.YtbidpeggdhkahaaGreat
open Go.RowKit

def NamTo (w : World) (ns : List ByteArray) (cnt : Value) (wr : World) : Prop := ∃ k : Nat, cnt = .int .i64 k ∧ k ≤ ns.length ∧ (ns.take k).all nameB = true ∧ (ns.take k).Nodup ∧ Below w.heap.size w wr
def RulTo (w : World) (G : Gram) (head many cnt : Value) (wr : World) : Prop := ∃ r : Nat, cnt = .int .i64 r ∧ r ≤ G.rules.length ∧ head = .int .i64 (hdAt G.rules r) ∧ many = .int .i64 (tot G.rules r) ∧ (List.range r).all (stepR G.rules G.names.length) = true ∧ Below w.heap.size w wr
structure SizesG (G : Gram) : Prop where
  n1 : 1 ≤ G.names.length
  n2 : G.names.length ≤ 64
  s0 : 0 ≤ G.start
  s1 : G.start < G.names.length
  r1 : 1 ≤ G.rules.length
  r2 : G.rules.length ≤ 256
theorem may_sizes {G : Gram} (h : mayB G = true) : SizesG G := by
  have M := mayG h
  exact ⟨M.K1, M.K64, M.start0, M.start1, M.rules1, M.rules⟩
theorem may_names {G : Gram} (h : mayB G = true) : G.names.all nameB = true ∧ G.names.Nodup := by
  simp only [mayB, namesB, Bool.and_eq_true, decide_eq_true_eq] at h
  exact ⟨h.1.1.1.1.1.1.1.1.2, h.1.1.1.1.1.1.1.2⟩
theorem may_steps {G : Gram} (h : mayB G = true) : (List.range G.rules.length).all (stepR G.rules G.names.length) = true := by
  rw [mayB_eq] at h
  simp only [Bool.and_eq_true] at h
  exact h.2.2.2.2.2.1
theorem not_may {G : Gram} (h : ¬ mayB G = true) : mayB G = false := by simpa using h
theorem may_end {G : Gram} (S : SizesG G) (h1 : G.names.all nameB = true) (h2 : G.names.Nodup) (h3 : (List.range G.rules.length).all (stepR G.rules G.names.length) = true) : mayB G = (decide (hdAt G.rules G.rules.length = (G.names.length : Int) - 1) && decide (tot G.rules G.rules.length ≤ 1024)) := by
  rw [mayB_eq, show namesB G.names = true by unfold namesB; rw [decide_eq_true S.n1, decide_eq_true S.n2, h1, decide_eq_true h2]; rfl, decide_eq_true S.s0, decide_eq_true S.s1, decide_eq_true S.r1, decide_eq_true S.r2, h3]
  rfl
theorem nodup_snoc {l : List ByteArray} {k : Nat} {s : ByteArray} (hs : l[k]? = some s) (h : (l.take k).Nodup) (hf : ∀ j, j < k → l[j]? ≠ some s) : (l.take (k + 1)).Nodup := by
  rw [take_snoc hs, List.nodup_append]
  refine ⟨h, by simp, fun a ha b hb => ?_⟩
  rw [List.mem_singleton.1 hb]
  rintro rfl
  obtain ⟨j, hj⟩ := List.getElem?_of_mem ha
  rw [List.getElem?_take] at hj
  split at hj
  · rename_i hlt; exact hf j hlt hj
  · cases hj
theorem dup_bad {l : List ByteArray} {j k : Nat} {s : ByteArray} (h1 : l[j]? = some s) (h2 : l[k]? = some s) (hjk : j < k) : ¬ l.Nodup := by
  intro hn
  obtain ⟨a1, a2⟩ := List.getElem?_eq_some_iff.1 h1
  obtain ⟨b1, b2⟩ := List.getElem?_eq_some_iff.1 h2
  exact absurd (a2.trans b2.symm) ((List.pairwise_iff_getElem.1 hn) j k a1 b1 hjk)

set_option maxRecDepth 100000 in
set_option maxHeartbeats 8000000 in
theorem rmay_all {w : World} {G : Gram} {A A' : Option Addr} {c c' : Nat} (hn1 : G.names.length ≤ 9223372036854775807) (hn2 : G.rules.length ≤ 9223372036854775807) (n3 : Rd.str.C w A G.names) (n6 : rulRd.C w A' G.rules) :
    Calls Tryz.prog 60 #[.agg #[.int .i64 G.start, .slice A G.names.length c, .slice A' G.rules.length c']] w fun e w' => e = .returned (.bool (mayB G)) ∧ Below w.heap.size w w' := by
  have hb0 : Below w.heap.size w (w.alloc (Obj.cells #[Value.int .i64 G.start, Value.slice A G.names.length c, Value.slice A' G.rules.length c'] 25)) := below_alloc' (below_refl w) _
  have B0 := heap_alloc_new w (Obj.cells #[Value.int .i64 G.start, Value.slice A G.names.length c, Value.slice A' G.rules.length c'] 25)
  have N3 := Lib.hid (n3.mono hb0)
  have N6 := Lib.hid (n6.mono hb0)
  have HB0 := Lib.hid hb0
  clear n3 n6 hb0
  by_cases hS : SizesG G
  case neg =>
    have HZ := Lib.hid (not_may (G := G) (fun h => hS (may_sizes h)))
    have hS' : ¬ (1 ≤ G.names.length ∧ G.names.length ≤ 64 ∧ 0 ≤ G.start ∧ G.start < G.names.length ∧ 1 ≤ G.rules.length ∧ G.rules.length ≤ 256) := fun h => hS ⟨h.1, h.2.1, h.2.2.1, h.2.2.2.1, h.2.2.2.2.1, h.2.2.2.2.2⟩
    clear hS B0
    go_enter Tryz.func60, Tryz.ntmps60
    go_wp2_with fail
    all_goals first
      | (go_ret; exact ⟨by rw [HZ.out]; rfl, HB0.out⟩)
      | (exfalso; omega)
  have d1 : decide ((G.names.length : Int) < 1) = false := by simp; have := hS.n1; omega
  have d2 : decide ((64 : Int) < G.names.length) = false := by simp; have := hS.n2; omega
  have d3 : decide (G.start < 0) = false := by simp; have := hS.s0; omega
  have d4 : decide ((G.names.length : Int) ≤ G.start) = false := by simp; have := hS.s1; omega
  have d5 : decide ((G.rules.length : Int) < 1) = false := by simp; have := hS.r1; omega
  have d6 : decide ((256 : Int) < G.rules.length) = false := by simp; have := hS.r2; omega
  have HSZ := Lib.hid hS
  clear hS
  go_enter Tryz.func60, Tryz.ntmps60
  go_wp2_with fail
  obtain ⟨bx, hbx⟩ : ∃ bx, bx = w.heap.size := ⟨_, rfl⟩
  rw [← hbx] at B0 ⊢
  have HX := Lib.hid B0
  clear hbx B0 d1 d2 d3 d4 d5 d6
  generalize w.alloc (Obj.cells #[Value.int .i64 G.start, Value.slice A G.names.length c, Value.slice A' G.rules.length c'] 25) = w0 at HX HB0 N3 N6 ⊢
  go_loopw [3] (fun cnt wr => NamTo w0 G.names cnt wr) (fun cnt _ => G.names.length - (intOf cnt).toNat)
  case atStart => exact ⟨0, rfl, Nat.zero_le _, rfl, List.nodup_nil, below_refl _⟩
  case round =>
    obtain ⟨k, rfl, hk, hall, hnd, hb⟩ := hrel
    have HB := Lib.hid hb
    have HAL := Lib.hid hall
    have HND := Lib.hid hnd
    have z1 : wr.cell? ⟨bx, 1, none⟩ = some (.slice A G.names.length c) := blk_cell (blk_below HX.out hb) 1
    have z2 : wr.cell? ⟨bx, 2, none⟩ = some (.slice A' G.rules.length c') := blk_cell (blk_below HX.out hb) 2
    clear hb hall hnd
    by_cases hlt : k < G.names.length
    · obtain ⟨s, hsn⟩ : ∃ s, G.names[k]? = some s := ⟨_, List.getElem?_eq_getElem hlt⟩
      obtain ⟨ad, eA, q0⟩ := Rd.C.one (N3.out.mono HB.out) hsn
      subst eA
      have hki : (k : Int) < G.names.length := by omega
      have HSN := Lib.hid hsn
      have Z1 := Lib.hid z1
      have Q0 := Lib.hid q0
      obtain ⟨nb, hnb⟩ : ∃ nb, nb = nameB s := ⟨_, rfl⟩
      have HNM := Lib.hid (show ∀ w5, Below wr.heap.size wr w5 → Calls Tryz.prog 85 #[.string s] w5 fun e w' => e = .returned (.bool nb) ∧ Below w5.heap.size w5 w' from fun w5 _ => by rw [hnb]; exact (rname_all s w5).mono fun e w' h => ⟨h.1, h.2 ▸ below_refl _⟩)
      obtain ⟨f, hfk, hfs, hff⟩ := first_of hsn
      have HFD := Lib.hid (show ∀ w5, Below wr.heap.size wr w5 → Calls Tryz.prog 86 #[.slice (some ad) G.names.length c, .string s] w5 fun e w' => e = .returned (.int .i64 f) ∧ Below w5.heap.size w5 w' from fun w5 h5 => (rfind_first ((N3.out.mono HB.out).mono h5) HSZ.out.n2 hfs hff).mono fun e w' h => ⟨h.1, h.2 ▸ below_refl _⟩)
      have HNB := Lib.hid hnb
      have HFF := Lib.hid hff
      have HFS := Lib.hid hfs
      clear hsn q0 hnb hff hfs
      cases nb with
      | false =>
        have HZ := Lib.hid (not_may (G := G) (fun h => by have := (may_names h).1; rw [all_bad HSN.out HNB.out.symm] at this; cases this))
        go_wp2_with fail
        refine wp_region_below (by kernel_rfl) (by kernel_rfl) ?_
        repeat (first
          | (refine qv_skip (by rfl) ?_; simp only [Act.put, List.setIfInBounds_toArray, List.set_cons_zero, List.set_cons_succ])
          | (refine qv_val' (by rfl) ?_; apply Exists.intro; refine ⟨fun w5 hC => ?_, ?_⟩; (have qqr0 := below_cell hC Z1.out; have qqr1 := below_cell hC Q0.out; go_simp; rfl); simp only [Act.put, List.setIfInBounds_toArray, List.set_cons_zero, List.set_cons_succ])
          | (refine qv_call' (by rfl) ?_; apply Exists.intro; apply Exists.intro; apply Exists.intro; refine ⟨fun w5 hC => ?_, fun w5 hC => ?_, ?_⟩; (go_simp; first | rfl | exact ⟨rfl, rfl⟩); (first | (go_at_call 85; with_reducible exact calls_in hC (HNM.out w5 hC))); simp only [Act.put, List.setIfInBounds_toArray, List.set_cons_zero, List.set_cons_succ]))
        refine qv_nil ?_
        intro w5 hC
        have HB5 := Lib.hid (below_trans HB.out hC)
        clear hC
        go_wp2_with fail
        go_ret
        exact ⟨by rw [HZ.out]; rfl, below_trans HB0.out HB5.out⟩
      | true =>
        by_cases hfe : f = k
        · subst hfe
          have d7 : ((f : Int) != (f : Int)) = false := by simp
          go_wp2_with fail
          refine wp_region_below (by kernel_rfl) (by kernel_rfl) ?_
          repeat (first
            | (refine qv_skip (by rfl) ?_; simp only [Act.put, List.setIfInBounds_toArray, List.set_cons_zero, List.set_cons_succ])
            | (refine qv_val' (by rfl) ?_; apply Exists.intro; refine ⟨fun w5 hC => ?_, ?_⟩; (have qqr0 := below_cell hC Z1.out; have qqr1 := below_cell hC Q0.out; go_simp; rfl); simp only [Act.put, List.setIfInBounds_toArray, List.set_cons_zero, List.set_cons_succ])
            | (refine qv_call' (by rfl) ?_; apply Exists.intro; apply Exists.intro; apply Exists.intro; refine ⟨fun w5 hC => ?_, fun w5 hC => ?_, ?_⟩; (go_simp; first | rfl | exact ⟨rfl, rfl⟩); (first | (go_at_call 85; with_reducible exact calls_in hC (HNM.out w5 hC)) | (go_at_call 86; with_reducible exact calls_in hC (HFD.out w5 hC))); simp only [Act.put, List.setIfInBounds_toArray, List.set_cons_zero, List.set_cons_succ]))
          refine qv_nil ?_
          intro w5 hC
          have HB5 := Lib.hid (below_trans HB.out hC)
          clear hC
          go_wp2_with fail
          go_roundw
          case rel => exact ⟨f + 1, by go_num, by omega, all_take2 HSN.out HAL.out HNB.out.symm, nodup_snoc HSN.out HND.out HFF.out, HB5.out⟩
          case measure => simp [intOf]; omega
        · have d7 : ((f : Int) != (k : Int)) = true := by simp; omega
          have HZ := Lib.hid (not_may (G := G) (fun h => dup_bad HFS.out HSN.out (by omega) (may_names h).2))
          go_wp2_with fail
          refine wp_region_below (by kernel_rfl) (by kernel_rfl) ?_
          repeat (first
            | (refine qv_skip (by rfl) ?_; simp only [Act.put, List.setIfInBounds_toArray, List.set_cons_zero, List.set_cons_succ])
            | (refine qv_val' (by rfl) ?_; apply Exists.intro; refine ⟨fun w5 hC => ?_, ?_⟩; (have qqr0 := below_cell hC Z1.out; have qqr1 := below_cell hC Q0.out; go_simp; rfl); simp only [Act.put, List.setIfInBounds_toArray, List.set_cons_zero, List.set_cons_succ])
            | (refine qv_call' (by rfl) ?_; apply Exists.intro; apply Exists.intro; apply Exists.intro; refine ⟨fun w5 hC => ?_, fun w5 hC => ?_, ?_⟩; (go_simp; first | rfl | exact ⟨rfl, rfl⟩); (first | (go_at_call 85; with_reducible exact calls_in hC (HNM.out w5 hC)) | (go_at_call 86; with_reducible exact calls_in hC (HFD.out w5 hC))); simp only [Act.put, List.setIfInBounds_toArray, List.set_cons_zero, List.set_cons_succ]))
          refine qv_nil ?_
          intro w5 hC
          have HB5 := Lib.hid (below_trans HB.out hC)
          clear hC
          go_wp2_with fail
          go_ret
          exact ⟨by rw [HZ.out]; rfl, below_trans HB0.out HB5.out⟩
    · have hke : k = G.names.length := by omega
      subst hke
      have HN1 := Lib.hid (show G.names.all nameB = true by have := HAL.out; rw [List.take_length] at this; exact this)
      have HN2 := Lib.hid (show G.names.Nodup by have := HND.out; rw [List.take_length] at this; exact this)
      go_wp2_with fail
      clear z1 z2
      go_loopw [4, 5, 6] (fun head many cnt wr' => RulTo w0 G head many cnt wr') (fun _ _ cnt _ => G.rules.length - (intOf cnt).toNat)
      case atStart => exact ⟨0, rfl, Nat.zero_le _, rfl, rfl, rfl, HB.out⟩
      case round =>
        clear HB
        obtain ⟨r, rfl, hr, rfl, rfl, hst, hb⟩ := hrel
        have HB := Lib.hid hb
        have HST := Lib.hid hst
        have z1 : wr.cell? ⟨bx, 1, none⟩ = some (.slice A G.names.length c) := blk_cell (blk_below HX.out hb) 1
        have z2 : wr.cell? ⟨bx, 2, none⟩ = some (.slice A' G.rules.length c') := blk_cell (blk_below HX.out hb) 2
        have htot := tot_le r hr hst
        have hr2 := HSZ.out.r2
        have hn2' := HSZ.out.n2
        clear hb hst
        by_cases hltr : r < G.rules.length
        · obtain ⟨x, hx⟩ : ∃ x, G.rules[r]? = some x := ⟨_, List.getElem?_eq_getElem hltr⟩
          obtain ⟨ad, A1, c1, eA, -, q0, q1, l3, l4, hCC⟩ := rul_at (N6.out.mono HB.out) hx
          subst eA
          have hki : (r : Int) < G.rules.length := by omega
          have HTS := Lib.hid (show tot G.rules (r + 1) = tot G.rules r + sSum x.conj x.conj.length by simp [tot, hx])
          have HHS := Lib.hid (show hdAt G.rules (r + 1) = x.head by simp [hdAt, hx])
          have HSR := Lib.hid (show stepR G.rules G.names.length r = (ruleB x G.names.length && (decide (0 ≤ x.head) && (decide (hdAt G.rules r ≤ x.head) && (decide (x.head ≤ hdAt G.rules r + 1) && decide (x.head < (G.names.length : Int)))))) by unfold stepR; rw [hx])
          have hhd : -1 ≤ hdAt G.rules r ∧ hdAt G.rules r ≤ 64 := by
            cases r with
            | zero => rw [show hdAt G.rules 0 = -1 from rfl]; omega
            | succ r =>
              have h1 := HST.out
              rw [range_succ_all, Bool.and_eq_true] at h1
              have h2 := h1.2
              unfold stepR at h2
              cases hy : G.rules[r]? with
              | none => rw [hy] at h2; cases h2
              | some y =>
                rw [hy] at h2
                simp only [Bool.and_eq_true, decide_eq_true_eq] at h2
                rw [show hdAt G.rules (r + 1) = y.head by simp [hdAt, hy]]
                omega
          have HCC := Lib.hid hCC
          have HBAD := Lib.hid (show stepR G.rules G.names.length r = false → mayB G = false from fun h => not_may (fun hm => by have := may_steps hm; rw [range_bad hltr h] at this; cases this))
          clear hx hCC
          obtain ⟨hd, ehd⟩ : ∃ hd, hd = hdAt G.rules r := ⟨_, rfl⟩
          rw [← ehd] at hhd HSR ⊢
          obtain ⟨tt, ett⟩ : ∃ tt : Nat, tt = tot G.rules r := ⟨_, rfl⟩
          rw [← ett] at htot HTS ⊢
          clear ehd ett
          have e0 : IntKind.i64.wrap (hd + 1) = hd + 1 := IntWalk.i64_in _ (by omega)
          have e0' : wrap64 (hd + 1) = hd + 1 := by unfold wrap64; omega
          by_cases hc : 0 ≤ x.head ∧ (x.head = hd ∨ x.head = hd + 1) ∧ x.head < (G.names.length : Int)
          case neg =>
            have HZ := Lib.hid (HBAD.out (by
              rw [HSR.out]
              rw [Bool.eq_false_iff]
              intro h
              simp only [Bool.and_eq_true, decide_eq_true_eq] at h
              exact hc (by omega)))
            go_wp2_with fail
            all_goals first
              | (go_ret; exact ⟨by rw [HZ.out]; rfl, below_trans HB0.out HB.out⟩)
              | (exfalso; apply hc; omega)
          obtain ⟨bh, hbh⟩ : ∃ bh, bh = ruleB x G.names.length := ⟨_, rfl⟩
          obtain ⟨sm, hsm⟩ : ∃ sm, sm = ruleSum x G.names.length := ⟨_, rfl⟩
          have CR := Lib.hid (show ∀ w5, Below wr.heap.size wr w5 → Calls Tryz.prog 87 #[.agg #[.int .i64 x.head, .slice A1 x.conj.length c1], .int .i64 G.names.length] w5 fun e w' => e = .returned (.tuple #[.int .i64 sm, .bool bh]) ∧ Below w5.heap.size w5 w' from fun w5 h5 => by rw [hbh, hsm]; exact rrule_all (HCC.out.mono h5))
          have g0 : decide (x.head < 0) = false := by simp; omega
          have g1 : decide ((G.names.length : Int) ≤ x.head) = false := by simp; omega
          have Z1 := Lib.hid z1
          have Z2 := Lib.hid z2
          have Q0 := Lib.hid q0
          have Q1 := Lib.hid q1
          have HBH := Lib.hid hbh
          have HSM := Lib.hid hsm
          clear hbh hsm
          have g23 : (x.head != hd) = false ∨ ((x.head != hd) = true ∧ (x.head != hd + 1) = false) := by
            by_cases h : x.head = hd
            · left; simp [h]
            · right; simp; omega
          have HC2 := Lib.hid hc
          clear hc
          cases bh with
          | false =>
            have HZ := Lib.hid (HBAD.out (by rw [HSR.out, ← HBH.out]; rfl))
            rcases g23 with g2 | ⟨g2, g3⟩
            all_goals
              go_wp2_with fail
              refine wp_region_below (by kernel_rfl) (by kernel_rfl) ?_
              repeat (first
                | (refine qv_skip (by rfl) ?_; simp only [Act.put, List.setIfInBounds_toArray, List.set_cons_zero, List.set_cons_succ])
                | (refine qv_val' (by rfl) ?_; apply Exists.intro; refine ⟨fun w5 hC => ?_, ?_⟩; (have qqr0 := below_cell hC Z1.out; have qqr1 := below_cell hC Z2.out; have qqr2 := below_cell hC Q0.out; have qqr3 := below_cell hC Q1.out; go_simp; rfl); simp only [Act.put, List.setIfInBounds_toArray, List.set_cons_zero, List.set_cons_succ])
                | (refine qv_call' (by rfl) ?_; apply Exists.intro; apply Exists.intro; apply Exists.intro; refine ⟨fun w5 hC => ?_, fun w5 hC => ?_, ?_⟩; (go_simp; first | rfl | exact ⟨rfl, rfl⟩); (first | (go_at_call 87; with_reducible exact calls_in hC (CR.out w5 hC))); simp only [Act.put, List.setIfInBounds_toArray, List.set_cons_zero, List.set_cons_succ]))
              refine qv_nil ?_
              intro w5 hC
              have HB5 := Lib.hid (below_trans HB.out hC)
              clear hC
              go_wp2_with fail
              go_ret
              exact ⟨by rw [HZ.out]; rfl, below_trans HB0.out HB5.out⟩
          | true =>
            have hsn : sm = (sSum x.conj x.conj.length : Int) := by rw [HSM.out]; unfold ruleSum; rw [← HBH.out]; rfl
            have hsl := sSum_le HBH.out.symm
            obtain ⟨sn, esn⟩ : ∃ sn : Nat, sn = sSum x.conj x.conj.length := ⟨_, rfl⟩
            rw [← esn] at hsl HTS
            subst hsn
            rw [← esn] at CR
            have HS1 := Lib.hid (show (List.range (r + 1)).all (stepR G.rules G.names.length) = true by
              rw [range_succ_all, HST.out, HSR.out, ← HBH.out]
              have hc := HC2.out
              rw [decide_eq_true hc.1, decide_eq_true (p := hd ≤ x.head) (by omega), decide_eq_true (p := x.head ≤ hd + 1) (by omega), decide_eq_true hc.2.2]
              rfl)
            have e1 : IntKind.i64.wrap ((tt : Int) + (sn : Int)) = ((tt + sn : Nat) : Int) := by rw [IntWalk.i64_in _ (by omega)]; omega
            clear esn
            rcases g23 with g2 | ⟨g2, g3⟩
            all_goals
              go_wp2_with fail
              refine wp_region_below (by kernel_rfl) (by kernel_rfl) ?_
              repeat (first
                | (refine qv_skip (by rfl) ?_; simp only [Act.put, List.setIfInBounds_toArray, List.set_cons_zero, List.set_cons_succ])
                | (refine qv_val' (by rfl) ?_; apply Exists.intro; refine ⟨fun w5 hC => ?_, ?_⟩; (have qqr0 := below_cell hC Z1.out; have qqr1 := below_cell hC Z2.out; have qqr2 := below_cell hC Q0.out; have qqr3 := below_cell hC Q1.out; go_simp; rfl); simp only [Act.put, List.setIfInBounds_toArray, List.set_cons_zero, List.set_cons_succ])
                | (refine qv_call' (by rfl) ?_; apply Exists.intro; apply Exists.intro; apply Exists.intro; refine ⟨fun w5 hC => ?_, fun w5 hC => ?_, ?_⟩; (go_simp; first | rfl | exact ⟨rfl, rfl⟩); (first | (go_at_call 87; with_reducible exact calls_in hC (CR.out w5 hC))); simp only [Act.put, List.setIfInBounds_toArray, List.set_cons_zero, List.set_cons_succ]))
              refine qv_nil ?_
              intro w5 hC
              have HB5 := Lib.hid (below_trans HB.out hC)
              clear hC
              go_wp2_with fail
              go_roundw
              case rel => exact ⟨r + 1, by go_num, by omega, by rw [HHS.out], by rw [HTS.out]; go_num, HS1.out, HB5.out⟩
              case measure => simp [intOf]; omega
        · have hre : r = G.rules.length := by omega
          subst hre
          have HME := Lib.hid (may_end HSZ.out HN1.out HN2.out HST.out)
          have hb3 : ¬ ((G.rules.length : Int) < G.rules.length) := by omega
          obtain ⟨hd, ehd⟩ : ∃ hd, hd = hdAt G.rules G.rules.length := ⟨_, rfl⟩
          obtain ⟨tt, ett⟩ : ∃ tt : Nat, tt = tot G.rules G.rules.length := ⟨_, rfl⟩
          rw [← ehd, ← ett] at HME
          rw [← ehd, ← ett]
          clear ehd ett htot
          cases c1 : (hd == (G.names.length : Int) - 1) with
          | false =>
            have HZ := Lib.hid (show mayB G = false by rw [HME.out]; rw [show decide (hd = (G.names.length : Int) - 1) = false from by simpa using c1]; rfl)
            go_wp2_with fail
            go_ret
            exact ⟨by rw [HZ.out]; rfl, below_trans HB0.out HB.out⟩
          | true =>
            have HZ := Lib.hid (show mayB G = decide (tt ≤ 1024) by rw [HME.out]; rw [show decide (hd = (G.names.length : Int) - 1) = true from by simpa using c1]; rfl)
            cases c2 : decide ((tt : Int) ≤ 1024) with
            | false =>
              have HY := Lib.hid (show mayB G = false by rw [HZ.out]; simp at c2 ⊢; omega)
              go_wp2_with fail
              go_ret
              exact ⟨by rw [HY.out]; rfl, below_trans HB0.out HB.out⟩
            | true =>
              have HY := Lib.hid (show mayB G = true by rw [HZ.out]; simp at c2 ⊢; omega)
              go_wp2_with fail
              go_ret
              exact ⟨by rw [HY.out]; rfl, below_trans HB0.out HB.out⟩
end Go.Proofs.YtbidpeggdhkahaaGreat
