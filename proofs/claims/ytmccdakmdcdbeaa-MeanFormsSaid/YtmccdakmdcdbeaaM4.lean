/-
  M4: mean.Table's rule, heads.
-/
import Derived.Test.YtmccdakmdcdbeaaM3
set_option linter.unusedSimpArgs false
set_option linter.unusedVariables false
namespace Go.Proofs.Ytmccdakmdcdbeaa
open Go.RowKit
attribute [local go_sem] max2_mxz max_mxz

theorem below_trans {w w1 w2 : World} (h : Below w.heap.size w w1) (k : Below w1.heap.size w1 w2) : Below w.heap.size w w2 := h.trans (k.mono h.size)

def RuleRel (w : World) (t : TS) (PL : Rk) (r : Nat) (cs : List Conj) (i j : Int) (rank cnt : Value) (wr : World) : Prop :=
  ∃ (k : Nat) (rk : Int), k ≤ cs.length ∧ cnt = .int .i64 k ∧ ruleTo t PL r cs i j k = some rk ∧ rank = .int .i64 rk ∧ Below w.heap.size w wr

set_option maxRecDepth 100000 in
set_option maxHeartbeats 2000000 in
theorem rule_any {w : World} {t : TS} {NM PL : Rk} (St : Stat w t) (F : t.Fits) (Rw : Rows w t NM PL) {r : Nat} {rr : Rul} (hr : t.G.rules[r]? = some rr)
    {i j : Int} (hi0 : 0 ≤ i) (hij : i ≤ j) (hj : j ≤ t.W.size) :
    Calls Try.prog 52 #[.pointer (some ⟨t.p, 0, none⟩), .int .i64 r, .int .i64 i, .int .i64 j] w
      fun e w' => e = .returned (.int .i64 (ruleF t PL r rr.conj i j)) ∧ Below w.heap.size w w' := by
  have hQ := F.Q
  have hW := F.W32
  have S := St.now
  have hrl : r < t.G.rules.length := (List.getElem?_eq_some_iff.1 hr).1
  have hrn := F.rules
  have hcn := (F.conj r rr hr).2
  obtain ⟨cR, hR⟩ := S.cR
  obtain ⟨ra, cC, era, -, -, r1⟩ := S.gR.rul r rr hr
  rw [era] at hR
  have b1 : (0 : Int) ≤ r := by omega
  have b2 : (r : Int) < t.G.rules.length := by omega
  clear era
  go_enter Try.func52, Try.ntmps52
  go_wp2_with fail
  go_loopw [9, 23] (fun rank cnt wr => RuleRel w t PL r rr.conj i j rank cnt wr) (fun _ cnt _ => rr.conj.length - (intOf cnt).toNat)
  case atStart => exact ⟨0, 1, by omega, rfl, rfl, rfl, Below.refl _ _⟩
  case round =>
    obtain ⟨k, rk, hk, rfl, hto, rfl, hb⟩ := hrel
    have HB := Lib.hid hb
    have HT := Lib.hid hto
    have St' := St.below hb
    have S' := St'.now
    have Rr := Rw.below hb
    clear hb hto
    by_cases hlt : k < rr.conj.length
    · have hc : rr.conj[k]? = some rr.conj[k] := List.getElem?_eq_getElem hlt
      obtain ⟨y, hy⟩ : ∃ y, y = rr.conj[k] := ⟨_, rfl⟩
      rw [← hy] at hc
      clear hy
      obtain ⟨ca, cS, eca, lc, c0, c1⟩ := S'.gR.con r rr k y hr hc
      have hoff := F.off r rr k y hr hc
      have f1 := S'.cP
      have f2 := S'.cA
      have f3 := S'.rA r rr hr
      have f4 := S'.oA r rr k y hr hc
      have f5 := S'.rP (t.off r k) (by omega)
      have f6 := S'.cW
      have f7 := (Rr.p (t.off r k) i j (by omega) (by omega) (by omega) (by omega) (by omega)).1
      unfold TS.key at f7
      have kb := key_bd t hi0 (by omega) (by omega) hj
      unfold TS.key at kb
      have kb1 := kb.1
      have kb2 := kb.2
      have b3 : (0 : Int) ≤ (t.off r k : Int) := by omega
      have b4 : (t.off r k : Int) < t.Q := by omega
      have b5 : (k : Int) < rr.conj.length := by omega
      clear kb
      have hs : ruleTo t PL r rr.conj i j (k + 1) = if (decide (0 < PL (t.off r k) i j) == y.neg) then none else some (mxz rk (wrap64 (PL (t.off r k) i j + 1))) := by
        simp only [ruleTo, HT.out, hc]
      obtain ⟨v, hv⟩ : ∃ v, v = PL (t.off r k) i j := ⟨_, rfl⟩
      rw [← hv] at hs f7
      have hb1 : Below wr.heap.size wr (wr.alloc (Obj.cells #[Value.bool y.neg, Value.slice (t.sa r k) y.seq.length cS] 48)) := (Below.refl _ _).alloc (Nat.le_refl _) _
      have HB1 := Lib.hid hb1
      have n0 : (wr.alloc (Obj.cells #[Value.bool y.neg, Value.slice (t.sa r k) y.seq.length cS] 48)).cell? ⟨wr.heap.size, 0, none⟩ = some (.bool y.neg) := by simp
      have n1 := below_cell hb1 f1
      have n2 := below_cell hb1 f2
      have n3 := below_cell hb1 f3
      have n4 := below_cell hb1 f4
      have n5 := below_cell hb1 f5
      have n6 := below_cell hb1 f6
      have n7 := below_cell hb1 f7
      clear hb1 hc hv
      cases hq : (decide (0 < v) == y.neg) with
      | true =>
        rw [hq] at hs
        simp only [if_true] at hs
        have hz := ruleF_none hs (by omega)
        have HZ := Lib.hid hz
        clear hz hs
        rw [eca]
        go_wp2_with fail
        generalize (wr.alloc (Obj.cells #[Value.bool y.neg, Value.slice (t.sa r k) y.seq.length cS] 48)) = w1 at HB1 n0 n1 n2 n3 n4 n5 n6 n7 ⊢
        go_quiet ((go_at_call 32; exact Calls.quiet_of_same (key_q t.p t.W _ _ _ n6 hW (by omega) (by omega) (by omega) (by omega))))
        go_wp2
        go_ret
        exact ⟨by rw [HZ.out]; rfl, pw_below_drewN (below_trans HB.out HB1.out) _⟩
      | false =>
        rw [hq] at hs
        simp only [Bool.false_eq_true, if_false] at hs
        have HS := Lib.hid hs
        clear hs
        rw [eca]
        go_wp2_with fail
        generalize (wr.alloc (Obj.cells #[Value.bool y.neg, Value.slice (t.sa r k) y.seq.length cS] 48)) = w1 at HB1 n0 n1 n2 n3 n4 n5 n6 n7 ⊢
        go_quiet ((go_at_call 32; exact Calls.quiet_of_same (key_q t.p t.W _ _ _ n6 hW (by omega) (by omega) (by omega) (by omega))))
        go_wp2
        go_roundw
        case rel => exact ⟨k + 1, _, by omega, by go_num, HS.out, rfl, pw_below_drewN (below_trans HB.out HB1.out) _⟩
        case measure => simp [intOf]; omega
    · have hk' : k = rr.conj.length := by omega
      have hz : ruleF t PL r rr.conj i j = rk := by unfold ruleF; rw [← hk', HT.out]; rfl
      have HZ := Lib.hid hz
      clear hk' hz
      go_wp2
      go_ret
      exact ⟨by rw [HZ.out]; rfl, HB.out⟩
end Go.Proofs.Ytmccdakmdcdbeaa
