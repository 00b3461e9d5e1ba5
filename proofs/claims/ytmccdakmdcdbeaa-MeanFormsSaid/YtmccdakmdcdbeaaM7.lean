/-
  M7: mean.Table's span.
-/
import Derived.Test.YtmccdakmdcdbeaaM6
import Derived.Deep.LoopGhost
set_option linter.unusedSimpArgs false
set_option linter.unusedVariables false
namespace Go.Proofs.Ytmccdakmdcdbeaa
open Go.RowKit
attribute [local go_sem] max2_mxz max_mxz

/-- One round of a level: its conjuncts that are not negated, then its names; did something become less? -/
def roundF (t : TS) (level : Int) (i j : Int) (st : Rk × Rk) : (Rk × Rk) × Bool :=
  (((headsF t level st.1 (passF t level st.1 st.2 false i j).1 i j).1, (passF t level st.1 st.2 false i j).1),
    (passF t level st.1 st.2 false i j).2 || (headsF t level st.1 (passF t level st.1 st.2 false i j).1 i j).2)
inductive RunsN (t : TS) (level : Int) (i j : Int) : Nat → Rk × Rk → Rk × Rk → Prop
  | stop {st : Rk × Rk} (h : (roundF t level i j st).2 = false) : RunsN t level i j 0 st (roundF t level i j st).1
  | more {n : Nat} {st st' : Rk × Rk} (h : (roundF t level i j st).2 = true) (k : RunsN t level i j n (roundF t level i j st).1 st') : RunsN t level i j (n + 1) st st'
theorem runs_true {t : TS} {level i j : Int} {m : Nat} {st fin : Rk × Rk} (h : RunsN t level i j m st fin) (ht : (roundF t level i j st).2 = true) : ∃ n, m = n + 1 ∧ RunsN t level i j n (roundF t level i j st).1 fin := by
  cases h with
  | stop h => rw [h] at ht; cases ht
  | more h k => exact ⟨_, rfl, k⟩
theorem runs_false {t : TS} {level i j : Int} {m : Nat} {st fin : Rk × Rk} (h : RunsN t level i j m st fin) (ht : (roundF t level i j st).2 = false) : m = 0 ∧ fin = (roundF t level i j st).1 := by
  cases h with
  | stop h => exact ⟨rfl, rfl⟩
  | more h k => rw [h] at ht; cases ht
def LevelDone (t : TS) (level : Int) (i j : Int) (st st' : Rk × Rk) : Prop := ∃ n, RunsN t level i j n (st.1, (passF t level st.1 st.2 true i j).1) st'
def SpanPost (w : World) (t : TS) (st : Rk × Rk) (e : Ending) (w' : World) : Prop := e = .returned (.tuple #[]) ∧ Upd t.R w w' ∧ Rows w' t st.1 st.2
def MoreRel (w : World) (t : TS) (level : Int) (i j : Int) (fin : Rk × Rk) (g : Nat) (more : Value) (wr : World) : Prop :=
  ∃ st : Rk × Rk, Upd t.R w wr ∧ Rows wr t st.1 st.2 ∧ ((more = .bool true ∧ ∃ n, g = n + 1 ∧ RunsN t level i j n st fin) ∨ (more = .bool false ∧ g = 0 ∧ st = fin))
def SpanRel (w : World) (t : TS) (sq : Nat → Rk × Rk) (cnt : Value) (wr : World) : Prop :=
  ∃ k : Nat, k ≤ t.K ∧ cnt = .int .i64 k ∧ Upd t.R w wr ∧ Rows wr t (sq k).1 (sq k).2

set_option maxRecDepth 100000 in
set_option maxHeartbeats 2000000 in
theorem span_any {w : World} {t : TS} {NM PL : Rk} (St : Stat w t) (F : t.Fits) (Rw : Rows w t NM PL) {i j : Int} (hi0 : 0 ≤ i) (hij : i ≤ j) (hj : j ≤ t.W.size)
    (sq : Nat → Rk × Rk) (h0 : sq 0 = (NM, PL)) (hs : ∀ k, k < t.K → LevelDone t k i j (sq k) (sq (k + 1))) :
    Calls Try.prog 29 #[.pointer (some ⟨t.p, 0, none⟩), .int .i64 i, .int .i64 j] w (SpanPost w t (sq t.K)) := by
  have hK := F.K64
  have S := St.now
  obtain ⟨AG, cG, hG⟩ := S.cG
  have Hs := Lib.hid hs
  have H0 := Lib.hid h0
  clear hs h0
  go_enter Try.func29, Try.ntmps29
  go_wp2_with fail
  go_loopw [16] (fun cnt wr => SpanRel w t sq cnt wr) (fun cnt _ => t.K - (intOf cnt).toNat)
  case atStart => exact ⟨0, by omega, rfl, Upd.refl _ _, by rw [H0.out]; exact Rw⟩
  case round =>
    obtain ⟨k, hk, rfl, hu, Rr⟩ := hrel
    have HU := Lib.hid hu
    have St' := St.upd hu
    clear hu
    by_cases hlt : k < t.K
    · obtain ⟨n, hrun⟩ := Hs.out k hlt
      have HRN := Lib.hid hrun
      clear hrun
      have b1 : (k : Int) < t.K := by omega
      have R1 := Lib.hid (pass_any St' F Rr (k : Int) true hi0 hij hj)
      go_wp2_with (go_at_call 39; refine R1.out.mono ?_; rintro e w1 ⟨rfl, hu1, Rr1⟩; have HU1 := Lib.hid (HU.out.trans hu1); clear hu1)
      obtain ⟨wp, rfl⟩ : ∃ wp : World, wp = wr := ⟨_, rfl⟩
      go_loopg [7] (n + 1) (fun gk more wi => MoreRel w t k i j (sq (k + 1)) gk more wi)
      case atStart => exact ⟨_, HU1.out, Rr1, .inl ⟨rfl, n, rfl, HRN.out⟩⟩
      case round =>
        obtain ⟨st, hu2, Rr2, ⟨rfl, m, rfl, hrm⟩ | ⟨rfl, rfl, rfl⟩⟩ := hrel
        · have HU2 := Lib.hid hu2
          have St2 := St.upd hu2
          have HM := Lib.hid hrm
          clear hu2 hrm
          have P1 := Lib.hid (pass_any St2 F Rr2 (k : Int) false hi0 hij hj)
          have P2 : Hid (∀ w2 : World, Stat w2 t → Rows w2 t st.1 (passF t k st.1 st.2 false i j).1 → Calls Try.prog 40 #[.pointer (some ⟨t.p, 0, none⟩), .int .i64 k, .int .i64 i, .int .i64 j] w2 (HeadsPost w2 t (passF t k st.1 st.2 false i j).1 (headsF t k st.1 (passF t k st.1 st.2 false i j).1 i j))) :=
            fun w2 S2 R2 => heads_any S2 F R2 k hi0 hij hj
          have hrf : roundF t k i j st = (((headsF t k st.1 (passF t k st.1 st.2 false i j).1 i j).1, (passF t k st.1 st.2 false i j).1), (passF t k st.1 st.2 false i j).2 || (headsF t k st.1 (passF t k st.1 st.2 false i j).1 i j).2) := rfl
          generalize passF t k st.1 st.2 false i j = pf at P1 P2 hrf
          generalize headsF t k st.1 pf.1 i j = hf at P2 hrf
          rcases pf with ⟨pl', pb⟩
          rcases hf with ⟨nm', hb⟩
          cases hm : (pb || hb) with
          | true =>
            obtain ⟨m', rfl, hrm'⟩ := runs_true HM.out (by rw [hrf]; exact hm)
            rw [hrf] at hrm'
            have HM' := Lib.hid hrm'
            clear hrm' hrf
            cases pb <;> cases hb <;> simp only [Bool.or_self, Bool.or_true, Bool.or_false, Bool.false_eq_true] at hm
            all_goals
              go_wp2_with (first | (go_at_call 39; refine P1.out.mono ?_; rintro e w3 ⟨rfl, hu3, Rr3⟩; have HU3 := Lib.hid hu3; have St3 := Lib.hid (St2.upd hu3); have R3 := Lib.hid Rr3; clear hu3 Rr3) | (go_at_call 40; refine (P2.out _ St3.out R3.out).mono ?_; rintro e w4 ⟨rfl, hu4, Rr4⟩; have HU4 := Lib.hid hu4; have R4 := Lib.hid Rr4; clear hu4 Rr4))
              go_roundg (m' + 1)
              case rel => exact ⟨(nm', pl'), HU2.out.trans (HU3.out.trans HU4.out), R4.out, .inl ⟨rfl, m', rfl, HM'.out⟩⟩
              case measure => omega
          | false =>
            obtain ⟨rfl, hfin⟩ := runs_false HM.out (by rw [hrf]; exact hm)
            rw [hrf] at hfin
            have HM' := Lib.hid hfin
            clear hfin hrf
            cases pb <;> cases hb <;> simp only [Bool.or_self, Bool.or_true, Bool.or_false, Bool.true_eq_false] at hm
            all_goals
              go_wp2_with (first | (go_at_call 39; refine P1.out.mono ?_; rintro e w3 ⟨rfl, hu3, Rr3⟩; have HU3 := Lib.hid hu3; have St3 := Lib.hid (St2.upd hu3); have R3 := Lib.hid Rr3; clear hu3 Rr3) | (go_at_call 40; refine (P2.out _ St3.out R3.out).mono ?_; rintro e w4 ⟨rfl, hu4, Rr4⟩; have HU4 := Lib.hid hu4; have R4 := Lib.hid Rr4; clear hu4 Rr4))
              go_roundg 0
              case rel => exact ⟨(nm', pl'), HU2.out.trans (HU3.out.trans HU4.out), R4.out, .inr ⟨rfl, rfl, HM'.out.symm⟩⟩
              case measure => omega
        · have HU2 := Lib.hid hu2
          clear hu2
          go_wp2
          go_roundw
          case rel => exact ⟨k + 1, by omega, by go_num, HU2.out, Rr2⟩
          case measure => simp [intOf]; omega
    · have hz : k = t.K := by omega
      have HZ := Lib.hid hz
      clear hz
      go_wp2
      go_end0
      exact ⟨rfl, HU.out, by rw [← HZ.out]; exact Rr⟩
end Go.Proofs.Ytmccdakmdcdbeaa
