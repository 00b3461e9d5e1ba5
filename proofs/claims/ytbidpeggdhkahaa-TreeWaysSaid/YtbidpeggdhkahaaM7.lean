/-
  M4: mean.Table's rule, heads.
  M5: mean.Table's heads.
  M6: mean.Table's pass.
  M7: mean.Table's span.
-/
import Derived.Test.YtbidpeggdhkahaaA3
import Derived.Test.YtbidpeggdhkahaaMp
import Derived.Test.YtbidpeggdhkahaaM3
import Derived.Deep.LoopGhost
set_option linter.unusedSimpArgs false
set_option linter.unusedVariables false
namespace Go.Proofs.Ytbidpeggdhkahaa
open Go.RowKit
attribute [local go_sem] max2_mxz max_mxz


def RuleRel (w : World) (t : TS) (PL : Rk) (r : Nat) (cs : List Conj) (i j : Int) (rank cnt : Value) (wr : World) : Prop :=
  ∃ (k : Nat) (rk : Int), k ≤ cs.length ∧ cnt = .int .i64 k ∧ ruleTo t PL r cs i j k = some rk ∧ rank = .int .i64 rk ∧ Below w.heap.size w wr

set_option maxRecDepth 100000 in
set_option maxHeartbeats 2000000 in
theorem rule_any {w : World} {t : TS} {NM PL : Rk} (St : Stat w t) (F : t.Fits) (Rw : Rows w t NM PL) {r : Nat} {rr : Rul} (hr : t.G.rules[r]? = some rr)
    {i j : Int} (hi0 : 0 ≤ i) (hij : i ≤ j) (hj : j ≤ t.W.size) :
    Calls Try.prog 50 #[.pointer (some ⟨t.p, 0, none⟩), .int .i64 r, .int .i64 i, .int .i64 j] w
      fun e w' => e = .returned (.int .i64 (ruleF t PL r rr.conj i j)) ∧ Below w.heap.size w w' := by
  have hQ := F.Q
  have hW := F.W32
  have S := St.now
  have hrl : r < t.G.rules.length := (List.getElem?_eq_some_iff.1 hr).1
  have hrn := F.rules
  have hcn := (F.conj r rr hr).2
  obtain ⟨cR, hR⟩ := S.cR
  obtain ⟨ra, cC, era, -, -, r1⟩ := S.gR.rul r rr hr
  rw [era] at hR
  have b1 : (0 : Int) ≤ r := by omega
  have b2 : (r : Int) < t.G.rules.length := by omega
  clear era
  go_enter Try.func50, Try.ntmps50
  go_wp2_with fail
  go_loopw [9, 23] (fun rank cnt wr => RuleRel w t PL r rr.conj i j rank cnt wr) (fun _ cnt _ => rr.conj.length - (intOf cnt).toNat)
  case atStart => exact ⟨0, 1, by omega, rfl, rfl, rfl, Below.refl _ _⟩
  case round =>
    obtain ⟨k, rk, hk, rfl, hto, rfl, hb⟩ := hrel
    have HB := Lib.hid hb
    have HT := Lib.hid hto
    have St' := St.below hb
    have S' := St'.now
    have Rr := Rw.below hb
    clear hb hto
    by_cases hlt : k < rr.conj.length
    · have hc : rr.conj[k]? = some rr.conj[k] := List.getElem?_eq_getElem hlt
      obtain ⟨y, hy⟩ : ∃ y, y = rr.conj[k] := ⟨_, rfl⟩
      rw [← hy] at hc
      clear hy
      obtain ⟨ca, cS, eca, lc, c0, c1⟩ := S'.gR.con r rr k y hr hc
      have hoff := F.off r rr k y hr hc
      have f1 := S'.cP
      have f2 := S'.cA
      have f3 := S'.rA r rr hr
      have f4 := S'.oA r rr k y hr hc
      have f5 := S'.rP (t.off r k) (by omega)
      have f6 := S'.cW
      have f7 := (Rr.p (t.off r k) i j (by omega) (by omega) (by omega) (by omega) (by omega)).1
      unfold TS.key at f7
      have kb := key_bd t hi0 (by omega) (by omega) hj
      unfold TS.key at kb
      have kb1 := kb.1
      have kb2 := kb.2
      have b3 : (0 : Int) ≤ (t.off r k : Int) := by omega
      have b4 : (t.off r k : Int) < t.Q := by omega
      have b5 : (k : Int) < rr.conj.length := by omega
      clear kb
      have hs : ruleTo t PL r rr.conj i j (k + 1) = if (decide (0 < PL (t.off r k) i j) == y.neg) then none else some (mxz rk (wrap64 (PL (t.off r k) i j + 1))) := by
        simp only [ruleTo, HT.out, hc]
      obtain ⟨v, hv⟩ : ∃ v, v = PL (t.off r k) i j := ⟨_, rfl⟩
      rw [← hv] at hs f7
      have hb1 : Below wr.heap.size wr (wr.alloc (Obj.cells #[Value.bool y.neg, Value.slice (t.sa r k) y.seq.length cS] 32)) := (Below.refl _ _).alloc (Nat.le_refl _) _
      have HB1 := Lib.hid hb1
      have n0 : (wr.alloc (Obj.cells #[Value.bool y.neg, Value.slice (t.sa r k) y.seq.length cS] 32)).cell? ⟨wr.heap.size, 0, none⟩ = some (.bool y.neg) := by simp
      have n1 := below_cell hb1 f1
      have n2 := below_cell hb1 f2
      have n3 := below_cell hb1 f3
      have n4 := below_cell hb1 f4
      have n5 := below_cell hb1 f5
      have n6 := below_cell hb1 f6
      have n7 := below_cell hb1 f7
      clear hb1 hc hv
      cases hq : (decide (0 < v) == y.neg) with
      | true =>
        rw [hq] at hs
        simp only [if_true] at hs
        have hz := ruleF_none hs (by omega)
        have HZ := Lib.hid hz
        clear hz hs
        rw [eca]
        go_wp2_with fail
        generalize (wr.alloc (Obj.cells #[Value.bool y.neg, Value.slice (t.sa r k) y.seq.length cS] 32)) = w1 at HB1 n0 n1 n2 n3 n4 n5 n6 n7 ⊢
        go_quiet ((go_at_call 27; exact Calls.quiet_of_same (key_q t.p t.W _ _ _ n6 hW (by omega) (by omega) (by omega) (by omega))))
        go_wp2
        go_ret
        exact ⟨by rw [HZ.out]; rfl, pw_below_drewN (below_trans HB.out HB1.out) _⟩
      | false =>
        rw [hq] at hs
        simp only [Bool.false_eq_true, if_false] at hs
        have HS := Lib.hid hs
        clear hs
        rw [eca]
        go_wp2_with fail
        generalize (wr.alloc (Obj.cells #[Value.bool y.neg, Value.slice (t.sa r k) y.seq.length cS] 32)) = w1 at HB1 n0 n1 n2 n3 n4 n5 n6 n7 ⊢
        go_quiet ((go_at_call 27; exact Calls.quiet_of_same (key_q t.p t.W _ _ _ n6 hW (by omega) (by omega) (by omega) (by omega))))
        go_wp2
        go_roundw
        case rel => exact ⟨k + 1, _, by omega, by go_num, HS.out, rfl, pw_below_drewN (below_trans HB.out HB1.out) _⟩
        case measure => simp [intOf]; omega
    · have hk' : k = rr.conj.length := by omega
      have hz : ruleF t PL r rr.conj i j = rk := by unfold ruleF; rw [← hk', HT.out]; rfl
      have HZ := Lib.hid hz
      clear hk' hz
      go_wp2
      go_ret
      exact ⟨by rw [HZ.out]; rfl, HB.out⟩
end Go.Proofs.Ytbidpeggdhkahaa

set_option linter.unusedSimpArgs false
set_option linter.unusedVariables false
namespace Go.Proofs.Ytbidpeggdhkahaa
open Go.RowKit
attribute [local go_sem] max2_mxz max_mxz

def HeadsRel (w : World) (t : TS) (level : Int) (NM PL : Rk) (i j : Int) (g cnt : Value) (wr : World) : Prop :=
  ∃ (k : Nat) (s : Rk × Bool), k ≤ t.G.rules.length ∧ cnt = .int .i64 k ∧ headsTo t level PL i j (NM, false) k = s ∧ g = .bool s.2 ∧ Upd t.R w wr ∧ Rows wr t s.1 PL
def HeadsPost (w : World) (t : TS) (PL : Rk) (s : Rk × Bool) (e : Ending) (w' : World) : Prop :=
  e = .returned (.bool s.2) ∧ Upd t.R w w' ∧ Rows w' t s.1 PL

theorem lev_at {w : World} {t : TS} (S : Static w t) {ad : Addr} (he : t.la = some ad) {n : Nat} {v : Int} (h : t.lev[n]? = some v) : w.cell? (ad.add n) = some (.int .i64 v) := by
  obtain ⟨ad', e, hc⟩ := Rd.C.one S.gL h
  rw [he] at e
  cases e
  exact hc
set_option maxRecDepth 100000 in
set_option maxHeartbeats 2000000 in
theorem heads_any {w : World} {t : TS} {NM PL : Rk} (St : Stat w t) (F : t.Fits) (Rw : Rows w t NM PL) (level : Int)
    {i j : Int} (hi0 : 0 ≤ i) (hij : i ≤ j) (hj : j ≤ t.W.size) :
    Calls Try.prog 36 #[.pointer (some ⟨t.p, 0, none⟩), .int .i64 level, .int .i64 i, .int .i64 j] w (HeadsPost w t PL (headsF t level NM PL i j)) := by
  have hQ := F.Q
  have hW := F.W32
  have hK := F.K64
  have hLn := F.lev
  have S := St.now
  have hrn := F.rules
  obtain ⟨cR, hR⟩ := S.cR
  go_enter Try.func36, Try.ntmps36
  go_wp2_with fail
  go_loopw [9, 18] (fun g cnt wr => HeadsRel w t level NM PL i j g cnt wr) (fun _ cnt _ => t.G.rules.length - (intOf cnt).toNat)
  case atStart => exact ⟨0, (NM, false), by omega, rfl, rfl, rfl, Upd.refl _ _, Rw⟩
  case round =>
    obtain ⟨r, s, hk, rfl, hto, rfl, hu, Rr⟩ := hrel
    have HU := Lib.hid hu
    have HT := Lib.hid hto
    have St' := St.upd hu
    have S' := St'.now
    clear hu hto
    by_cases hlt : r < t.G.rules.length
    · have hr : t.G.rules[r]? = some t.G.rules[r] := List.getElem?_eq_getElem hlt
      obtain ⟨x, hx⟩ : ∃ x, x = t.G.rules[r] := ⟨_, rfl⟩
      rw [← hx] at hr
      clear hx
      obtain ⟨ra, cC, era, lr, r0, r1⟩ := S'.gR.rul r x hr
      have hh := F.head r x hr
      have hh0 := hh.1
      have hh1 := hh.2
      clear hh
      have f1 := S'.cL
      have hl2 : t.lev[x.head.toNat]? = some t.lev[x.head.toNat] := List.getElem?_eq_getElem (by omega)
      have hl3 : t.lev.getD x.head.toNat 0 = t.lev[x.head.toNat] := by rw [List.getD_eq_getElem?_getD, hl2]; rfl
      rw [← hl3] at hl2
      clear hl3
      obtain ⟨la, ela, f2⟩ := (Rd.C.one S'.gL hl2)
      rw [ela] at f1
      obtain ⟨lv, hlv⟩ : ∃ v, v = t.lev.getD x.head.toNat 0 := ⟨_, rfl⟩
      rw [← hlv] at f2
      have f3 := S'.cN
      have f4 := S'.rN x.head.toNat (by omega)
      have kb := key_bd t hi0 (by omega) (by omega) hj
      have hs : headsTo t level PL i j (NM, false) (r + 1) = headsStep t level PL i j r x s := by simp only [headsTo, hr, HT.out]
      unfold headsStep at hs
      rw [← hlv] at hs
      have b5 : (r : Int) < t.G.rules.length := by omega
      have b6 : x.head < (t.lev.length : Int) := by omega
      have hb1 : Below wr.heap.size wr (wr.alloc (Obj.cells #[Value.int .i64 x.head, Value.slice (t.ca r) x.conj.length cC] 29)) := (Below.refl _ _).alloc (Nat.le_refl _) _
      have n0 : (wr.alloc (Obj.cells #[Value.int .i64 x.head, Value.slice (t.ca r) x.conj.length cC] 29)).cell? ⟨wr.heap.size, 0, none⟩ = some (.int .i64 x.head) := by simp
      have n1 := below_cell hb1 f1
      have n2 := below_cell hb1 f2
      have n3 := below_cell hb1 f3
      have n4 := below_cell hb1 f4
      have HB1 := Lib.hid hb1
      have HLV := Lib.hid hlv
      have HEL := Lib.hid ela
      have HL2 := Lib.hid hl2
      clear hl2 hb1 hlv ela
      by_cases hlev : lv = level
      · rw [if_pos hlev] at hs
        obtain ⟨rk, hrk⟩ : ∃ v, v = ruleF t PL r x.conj i j := ⟨_, rfl⟩
        rw [← hrk] at hs
        have St1 := Lib.hid (St'.below HB1.out)
        have R1 := Lib.hid (Rr.below HB1.out)
        have R3 : Calls Try.prog 50 #[.pointer (some ⟨t.p, 0, none⟩), .int .i64 r, .int .i64 i, .int .i64 j] (wr.alloc (Obj.cells #[Value.int .i64 x.head, Value.slice (t.ca r) x.conj.length cC] 29)).drew
            fun e w' => e = .returned (.int .i64 rk) ∧ Below (wr.alloc (Obj.cells #[Value.int .i64 x.head, Value.slice (t.ca r) x.conj.length cC] 29)).heap.size (wr.alloc (Obj.cells #[Value.int .i64 x.head, Value.slice (t.ca r) x.conj.length cC] 29)).drew w' := by
          rw [hrk]
          exact rule_any St1.out.drew F R1.out.drew hr hi0 hij hj
        have HR1 := Lib.hid R3
        have d1 : (lv == level) = true := by simpa using hlev
        clear R3 hrk hlev
        have NE : Hid (t.nr x.head.toNat ≠ wr.heap.size) := by
          have := World.block_lt_of_cell? wr _ (Rr.n x.head.toNat i j (by omega) (by omega) (by omega) (by omega) (by omega)).1
          exact Nat.ne_of_lt this
        rw [era]
        cases hl : lessB (s.1 x.head.toNat i j) rk with
        | false =>
          rw [hl] at hs
          simp only [Bool.false_eq_true, if_false] at hs
          have HS := Lib.hid hs
          have HL := Lib.hid hl
          clear hs hl
          go_wp2_with fail
          generalize (wr.alloc (Obj.cells #[Value.int .i64 x.head, Value.slice (t.ca r) x.conj.length cC] 29)) = w1 at HB1 n0 n1 n2 n3 n4 St1 R1 HR1 ⊢
          go_region_held3 (fun w' => w'.cell? ⟨t.p, 4, none⟩ = some (.slice (some la) t.lev.length t.xL) ∧ w'.cell? (la.add x.head.toNat) = some (.int .i64 lv) ∧ w'.cell? ⟨wr.heap.size, 0, none⟩ = some (.int .i64 x.head) ∧ w'.cell? ⟨t.p, 5, none⟩ = some (.slice (some ⟨t.nb, 0, none⟩) t.K t.xN) ∧ w'.cell? ⟨t.nb, x.head.toNat, none⟩ = some (.slice (some ⟨t.nr x.head.toNat, 0, none⟩) t.S (t.yN x.head.toNat))) (first | exact ⟨j1, j2, j0, j3, j4⟩ | exact ⟨n1, n2, n0, n3, n4⟩)
            (first | (go_at_call 50; refine HR1.out.mono ?_; rintro e w2 ⟨rfl, hb2⟩; have j1 := below_cell (w := w1.drew) hb2 n1; have j2 := below_cell (w := w1.drew) hb2 n2; have j0 := below_cell (w := w1.drew) hb2 n0; have j3 := below_cell (w := w1.drew) hb2 n3; have j4 := below_cell (w := w1.drew) hb2 n4; have R2 := Lib.hid (R1.out.drew.below hb2); have S2 := Lib.hid (St1.out.drew.below hb2); have HB2 := Lib.hid hb2; have hz2 := hb2.size; clear hb2) | (go_at_call 49; refine (less_no t.p t.W (t.nr x.head.toNat) (t.yN x.head.toNat) t.S i j rk (s.1 x.head.toNat i j) _ S2.out.now.cW hW hi0 (by omega) (by omega) hj kb.2 (R2.out.n x.head.toNat i j (by omega) (by omega) (by omega) (by omega) (by omega)).1 (R2.out.n x.head.toNat i j (by omega) (by omega) (by omega) (by omega) (by omega)).2 HL.out).mono ?_; rintro e w3 ⟨rfl, rfl⟩))
          clear n0 n1 n2 n3 n4 f1 f2 f3 f4
          go_wp2
          go_roundw
          case rel => exact ⟨r + 1, s, by omega, by go_num, HS.out, rfl, HU.out.trans (((Upd.of_below HB1.out).trans ((Upd.refl t.R _).drew.trans (Upd.of_below (a := w1.drew) HB2.out)))), R2.out⟩
          case measure => simp [intOf]; omega
        | true =>
          rw [hl] at hs
          simp only [if_true] at hs
          have HS := Lib.hid hs
          have HL := Lib.hid hl
          clear hs hl
          go_wp2_with fail
          generalize (wr.alloc (Obj.cells #[Value.int .i64 x.head, Value.slice (t.ca r) x.conj.length cC] 29)) = w1 at HB1 n0 n1 n2 n3 n4 St1 R1 HR1 ⊢
          go_region_held3 (fun w' => w'.cell? ⟨t.p, 4, none⟩ = some (.slice (some la) t.lev.length t.xL) ∧ w'.cell? (la.add x.head.toNat) = some (.int .i64 lv) ∧ w'.cell? ⟨wr.heap.size, 0, none⟩ = some (.int .i64 x.head) ∧ w'.cell? ⟨t.p, 5, none⟩ = some (.slice (some ⟨t.nb, 0, none⟩) t.K t.xN) ∧ w'.cell? ⟨t.nb, x.head.toNat, none⟩ = some (.slice (some ⟨t.nr x.head.toNat, 0, none⟩) t.S (t.yN x.head.toNat))) (first | exact ⟨k1, k2, k0, k3, k4⟩ | exact ⟨j1, j2, j0, j3, j4⟩ | exact ⟨n1, n2, n0, n3, n4⟩)
            (first | (go_at_call 50; refine HR1.out.mono ?_; rintro e w2 ⟨rfl, hb2⟩; have j1 := below_cell (w := w1.drew) hb2 n1; have j2 := below_cell (w := w1.drew) hb2 n2; have j0 := below_cell (w := w1.drew) hb2 n0; have j3 := below_cell (w := w1.drew) hb2 n3; have j4 := below_cell (w := w1.drew) hb2 n4; have R2 := Lib.hid (R1.out.drew.below hb2); have S2 := Lib.hid (St1.out.drew.below hb2); have HB2 := Lib.hid hb2; have hz2 := hb2.size; clear hb2) | (go_at_call 49; refine (less_yes t.p t.W (t.nr x.head.toNat) (t.yN x.head.toNat) t.S i j rk (s.1 x.head.toNat i j) _ S2.out.now.cW hW hi0 (by omega) (by omega) hj kb.2 (R2.out.n x.head.toNat i j (by omega) (by omega) (by omega) (by omega) (by omega)).1 (R2.out.n x.head.toNat i j (by omega) (by omega) (by omega) (by omega) (by omega)).2 HL.out).mono ?_; rintro e w3 ⟨rfl, rfl⟩; have U3 := Lib.hid ((Upd.refl t.R w2).setCell (p := ⟨t.nr x.head.toNat, (i * (t.W.size + 1) + j).toNat, none⟩) (.inl ⟨x.head.toNat, by omega, rfl⟩) (.int .i64 rk)); have k1 := (S2.out.upd U3.out).now.cL; rw [HEL.out] at k1; have k2 := lev_at (S2.out.upd U3.out).now HEL.out HL2.out; rw [← HLV.out] at k2; have k0 := keep_set (b := ⟨t.nr x.head.toNat, (i * (t.W.size + 1) + j).toNat, none⟩) (u := .int .i64 rk) j0 NE.out; have k3 := (S2.out.upd U3.out).now.cN; have k4 := (S2.out.upd U3.out).now.rN x.head.toNat (by omega)))
          clear n0 n1 n2 n3 n4 f1 f2 f3 f4
          go_wp2
          go_roundw
          case rel => exact ⟨r + 1, (putR s.1 x.head.toNat i j rk, true), by omega, by go_num, HS.out, rfl, HU.out.trans (((Upd.of_below HB1.out).trans ((Upd.refl t.R _).drew.trans (Upd.of_below (a := w1.drew) HB2.out))).trans U3.out), R2.out.putN F (by omega) (by omega) (by omega) (by omega) (by omega) rk⟩
          case measure => simp [intOf]; omega
      · rw [if_neg hlev] at hs
        have HS := Lib.hid hs
        have d1 : (lv == level) = false := by simpa using hlev
        clear hs hlev
        rw [era]
        go_wp2_with fail
        generalize (wr.alloc (Obj.cells #[Value.int .i64 x.head, Value.slice (t.ca r) x.conj.length cC] 29)) = w1 at HB1 n0 n1 n2 n3 n4 ⊢
        go_quiet (fail)
        go_wp2
        go_roundw
        case rel => exact ⟨r + 1, s, by omega, by go_num, HS.out, rfl, HU.out.trans (Upd.drewN (Upd.of_below HB1.out) _), Rr.below (pw_below_drewN HB1.out _)⟩
        case measure => simp [intOf]; omega
    · have hz : headsF t level NM PL i j = s := by unfold headsF; rw [show t.G.rules.length = r by omega]; exact HT.out
      have HZ := Lib.hid hz
      clear hz
      go_wp2
      go_ret
      exact ⟨by rw [HZ.out]; rfl, HU.out, by rw [HZ.out]; exact Rr⟩
end Go.Proofs.Ytbidpeggdhkahaa

set_option linter.unusedSimpArgs false
set_option linter.unusedVariables false
namespace Go.Proofs.Ytbidpeggdhkahaa
open Go.RowKit
attribute [local go_sem] max2_mxz max_mxz

def PassRel (w : World) (t : TS) (level : Int) (NM PL : Rk) (neg : Bool) (i j : Int) (g cnt : Value) (wr : World) : Prop :=
  ∃ (k : Nat) (s : Rk × Bool), k ≤ t.G.rules.length ∧ cnt = .int .i64 k ∧ passTo t level NM neg i j (PL, false) k = s ∧ g = .bool s.2 ∧ Upd t.R w wr ∧ Rows wr t NM s.1
def PassIn (w : World) (t : TS) (NM : Rk) (neg : Bool) (i j : Int) (r : Nat) (cs : List Conj) (s0 : Rk × Bool) (g cnt : Value) (wr : World) : Prop :=
  ∃ (k : Nat) (s : Rk × Bool), k ≤ cs.length ∧ cnt = .int .i64 k ∧ passC t NM neg i j r cs s0 k = s ∧ g = .bool s.2 ∧ Upd t.R w wr ∧ Rows wr t NM s.1

theorem R_lt {w : World} {t : TS} {NM PL : Rk} (h : Rows w t NM PL) {b : Nat} (hb : t.R b) : b < w.heap.size := by
  rcases hb with ⟨k, hk, rfl⟩ | ⟨k, hk, rfl⟩
  · exact World.block_lt_of_cell? w _ (h.n k 0 0 hk (by omega) (by omega) (by omega) (by omega)).1
  · exact World.block_lt_of_cell? w _ (h.p k 0 0 hk (by omega) (by omega) (by omega) (by omega)).1

set_option maxRecDepth 100000 in
set_option maxHeartbeats 2000000 in
theorem pass_any {w : World} {t : TS} {NM PL : Rk} (St : Stat w t) (F : t.Fits) (Rw : Rows w t NM PL) (level : Int) (neg : Bool)
    {i j : Int} (hi0 : 0 ≤ i) (hij : i ≤ j) (hj : j ≤ t.W.size) :
    Calls Try.prog 35 #[.pointer (some ⟨t.p, 0, none⟩), .int .i64 level, .bool neg, .int .i64 i, .int .i64 j] w (ConjPost w t NM PL (passF t level NM PL neg i j)) := by
  have hK := F.K64
  have hLn := F.lev
  have S := St.now
  have hrn := F.rules
  obtain ⟨cR, hR⟩ := S.cR
  go_enter Try.func35, Try.ntmps35
  go_wp2_with fail
  go_loopw [11, 21] (fun g cnt wr => PassRel w t level NM PL neg i j g cnt wr) (fun _ cnt _ => t.G.rules.length - (intOf cnt).toNat)
  case atStart => exact ⟨0, (PL, false), by omega, rfl, rfl, rfl, Upd.refl _ _, Rw⟩
  case round =>
    obtain ⟨r, s, hk, rfl, hto, rfl, hu, Rr⟩ := hrel
    have HU := Lib.hid hu
    have HT := Lib.hid hto
    have St' := St.upd hu
    have S' := St'.now
    clear hu hto
    by_cases hlt : r < t.G.rules.length
    · have hr : t.G.rules[r]? = some t.G.rules[r] := List.getElem?_eq_getElem hlt
      obtain ⟨x, hx⟩ : ∃ x, x = t.G.rules[r] := ⟨_, rfl⟩
      rw [← hx] at hr
      clear hx
      obtain ⟨ra, cC, era, lr, r0, r1⟩ := S'.gR.rul r x hr
      have hh := F.head r x hr
      have hh0 := hh.1
      have hh1 := hh.2
      have hcl := (F.conj r x hr).2
      clear hh
      have hcl1 := (F.conj r x hr).1
      obtain ⟨y0, hy0⟩ : ∃ y, x.conj[0]? = some y := ⟨_, List.getElem?_eq_getElem (by omega)⟩
      obtain ⟨ca, _, eca, -, -, -⟩ := S'.gR.con r x 0 y0 hr hy0
      have ECA := Lib.hid eca
      rw [eca] at r1
      clear hy0 eca hcl1
      have f1 := S'.cL
      have hl2 : t.lev[x.head.toNat]? = some t.lev[x.head.toNat] := List.getElem?_eq_getElem (by omega)
      have hl3 : t.lev.getD x.head.toNat 0 = t.lev[x.head.toNat] := by rw [List.getD_eq_getElem?_getD, hl2]; rfl
      rw [← hl3] at hl2
      clear hl3
      obtain ⟨la, ela, f2⟩ := (Rd.C.one S'.gL hl2)
      rw [ela] at f1
      obtain ⟨lv, hlv⟩ : ∃ v, v = t.lev.getD x.head.toNat 0 := ⟨_, rfl⟩
      rw [← hlv] at f2
      have hs : passTo t level NM neg i j (PL, false) (r + 1) = if lv = level then passC t NM neg i j r x.conj s x.conj.length else s := by simp only [passTo, hr, HT.out, hlv]
      have b5 : (r : Int) < t.G.rules.length := by omega
      have b6 : x.head < (t.lev.length : Int) := by omega
      have hb1 : Below wr.heap.size wr (wr.alloc (Obj.cells #[Value.int .i64 x.head, Value.slice (some ca) x.conj.length cC] 29)) := (Below.refl _ _).alloc (Nat.le_refl _) _
      have n0 : (wr.alloc (Obj.cells #[Value.int .i64 x.head, Value.slice (some ca) x.conj.length cC] 29)).cell? ⟨wr.heap.size, 0, none⟩ = some (.int .i64 x.head) := by simp
      have n3 : (wr.alloc (Obj.cells #[Value.int .i64 x.head, Value.slice (some ca) x.conj.length cC] 29)).cell? ⟨wr.heap.size, 1, none⟩ = some (.slice (some ca) x.conj.length cC) := by simp
      have n1 := below_cell hb1 f1
      have n2 := below_cell hb1 f2
      have HB1 := Lib.hid hb1
      clear hl2 hb1 hlv
      by_cases hlev : lv = level
      · rw [if_pos hlev] at hs
        have HS := Lib.hid hs
        have d1 : (lv != level) = false := by simpa using hlev
        clear hs hlev
        rw [era]
        go_wp2_with fail
        have hN : ¬ t.R wr.heap.size := fun h => Nat.lt_irrefl _ (R_lt Rr h)
        have HN := Lib.hid hN
        obtain ⟨b0, hb0⟩ : ∃ b, b = wr.heap.size := ⟨_, rfl⟩
        generalize (wr.alloc (Obj.cells #[Value.int .i64 x.head, Value.slice (some ca) x.conj.length cC] 29)) = w1 at HB1 n0 n1 n2 n3 ⊢
        go_quiet (fail)
        clear hN
        go_wp2_with fail
        have m3 : (w1.drewN nq).cell? ⟨wr.heap.size, 1, none⟩ = some (.slice (some ca) x.conj.length cC) := n3
        have HB2 := Lib.hid (pw_below_drewN HB1.out nq)
        clear n0 n1 n2 n3 f1 f2 HB1
        generalize w1.drewN nq = wo at HB2 m3 ⊢
        have R1 := Lib.hid (Rr.below HB2.out)
        have St1 := Lib.hid (St'.below HB2.out)
        have m3' := Lib.hid m3
        clear m3
        have m3 : Hid (wo.cell? ⟨wr.heap.size, 1, none⟩ = some (.slice (some ca) x.conj.length cC)) := m3'
        obtain ⟨wp, rfl⟩ : ∃ wp : World, wp = wr := ⟨_, rfl⟩
        go_loopw [11, 39] (fun g cnt wi => PassIn wo t NM neg i j r x.conj s g cnt wi) (fun _ cnt _ => x.conj.length - (intOf cnt).toNat)
        case atStart => exact ⟨0, s, by omega, rfl, rfl, rfl, Upd.refl _ _, R1.out⟩
        case round =>
          obtain ⟨k, q, hkk, rfl, htk, rfl, huk, Rk⟩ := hrel
          have HUK := Lib.hid huk
          have HTK := Lib.hid htk
          have Stk := St1.out.upd huk
          have m4 := huk.cell m3.out HN.out
          clear huk htk
          by_cases hltk : k < x.conj.length
          · have hc : x.conj[k]? = some x.conj[k] := List.getElem?_eq_getElem hltk
            obtain ⟨y, hy⟩ : ∃ y, y = x.conj[k] := ⟨_, rfl⟩
            rw [← hy] at hc
            clear hy
            obtain ⟨ca', cS, eca, lc, c0, c1⟩ := Stk.now.gR.con r x k y hr hc
            have : ca' = ca := by rw [ECA.out] at eca; injection eca with e; exact e.symm
            subst this
            have hs : passC t NM neg i j r x.conj s (k + 1) = if y.neg = neg then ((conjF t NM q.1 y.seq (t.off r k) i j).1, q.2 || (conjF t NM q.1 y.seq (t.off r k) i j).2) else q := by simp only [passC, hc, HTK.out]
            have b7 : (k : Int) < x.conj.length := by omega
            clear eca c1
            by_cases hn : y.neg = neg
            · rw [if_pos hn] at hs
              obtain ⟨cf, hcf⟩ : ∃ z, z = conjF t NM q.1 y.seq (t.off r k) i j := ⟨_, rfl⟩
              rw [← hcf] at hs
              have R3 : Calls Try.prog 48 #[.pointer (some ⟨t.p, 0, none⟩), .int .i64 r, .int .i64 k, .int .i64 i, .int .i64 j] wr (ConjPost wr t NM q.1 cf) := by
                rw [hcf]
                exact conj_any Stk F Rk hr hc hi0 hij hj
              have HR3 := Lib.hid R3
              have d2 : (y.neg == neg) = true := by simpa using hn
              have HS := Lib.hid hs
              clear R3 hs hn hcf hc
              cases hcf2 : cf.2 with
              | true =>
                go_wp2_with (go_at_call 48; refine HR3.out.mono ?_; rintro e w' ⟨rfl, hu', hR'⟩; rw [hcf2]; have HU' := Lib.hid hu'; clear hu')
                go_roundw
                case rel => exact ⟨k + 1, (cf.1, true), by omega, by go_num, by rw [HS.out, hcf2]; simp, rfl, HUK.out.trans HU'.out, hR'⟩
                case measure => simp [intOf]; omega
              | false =>
                go_wp2_with (go_at_call 48; refine HR3.out.mono ?_; rintro e w' ⟨rfl, hu', hR'⟩; rw [hcf2]; have HU' := Lib.hid hu'; clear hu')
                go_roundw
                case rel => exact ⟨k + 1, (cf.1, q.2), by omega, by go_num, by rw [HS.out, hcf2]; simp, rfl, HUK.out.trans HU'.out, hR'⟩
                case measure => simp [intOf]; omega
            · rw [if_neg hn] at hs
              have HS := Lib.hid hs
              have d2 : (y.neg == neg) = false := by simpa using hn
              clear hs hn hc
              go_wp2
              go_roundw
              case rel => exact ⟨k + 1, q, by omega, by go_num, HS.out, rfl, HUK.out, Rk⟩
              case measure => simp [intOf]; omega
          · have hz : passC t NM neg i j r x.conj s x.conj.length = q := by rw [show x.conj.length = k by omega]; exact HTK.out
            have HZ := Lib.hid hz
            clear hz
            go_wp2
            go_roundw
            case rel => exact ⟨r + 1, q, by omega, by go_num, by rw [HS.out, HZ.out], rfl, (HU.out.trans (Upd.of_below HB2.out)).trans HUK.out, Rk⟩
            case measure => simp [intOf]; omega
      · rw [if_neg hlev] at hs
        have HS := Lib.hid hs
        have d1 : (lv != level) = true := by simpa using hlev
        clear hs hlev
        rw [era]
        go_wp2_with fail
        generalize (wr.alloc (Obj.cells #[Value.int .i64 x.head, Value.slice (some ca) x.conj.length cC] 29)) = w1 at HB1 n0 n1 n2 n3 ⊢
        go_quiet (fail)
        go_wp2
        go_roundw
        case rel => exact ⟨r + 1, s, by omega, by go_num, HS.out, rfl, HU.out.trans (Upd.drewN (Upd.of_below HB1.out) _), Rr.below (pw_below_drewN HB1.out _)⟩
        case measure => simp [intOf]; omega
    · have hz : passF t level NM PL neg i j = s := by unfold passF; rw [show t.G.rules.length = r by omega]; exact HT.out
      have HZ := Lib.hid hz
      clear hz
      go_wp2
      go_ret
      exact ⟨by rw [HZ.out]; rfl, HU.out, by rw [HZ.out]; exact Rr⟩
end Go.Proofs.Ytbidpeggdhkahaa

set_option linter.unusedSimpArgs false
set_option linter.unusedVariables false
namespace Go.Proofs.Ytbidpeggdhkahaa
open Go.RowKit
attribute [local go_sem] max2_mxz max_mxz

def SpanPost (w : World) (t : TS) (st : Rk × Rk) (e : Ending) (w' : World) : Prop := e = .returned (.tuple #[]) ∧ Upd t.R w w' ∧ Rows w' t st.1 st.2
def MoreRel (w : World) (t : TS) (level : Int) (i j : Int) (fin : Rk × Rk) (g : Nat) (more : Value) (wr : World) : Prop :=
  ∃ st : Rk × Rk, Upd t.R w wr ∧ Rows wr t st.1 st.2 ∧ ((more = .bool true ∧ ∃ n, g = n + 1 ∧ RunsN t level i j n st fin) ∨ (more = .bool false ∧ g = 0 ∧ st = fin))
def SpanRel (w : World) (t : TS) (sq : Nat → Rk × Rk) (cnt : Value) (wr : World) : Prop :=
  ∃ k : Nat, k ≤ t.K ∧ cnt = .int .i64 k ∧ Upd t.R w wr ∧ Rows wr t (sq k).1 (sq k).2

set_option maxRecDepth 100000 in
set_option maxHeartbeats 2000000 in
theorem span_any {w : World} {t : TS} {NM PL : Rk} (St : Stat w t) (F : t.Fits) (Rw : Rows w t NM PL) {i j : Int} (hi0 : 0 ≤ i) (hij : i ≤ j) (hj : j ≤ t.W.size)
    (sq : Nat → Rk × Rk) (h0 : sq 0 = (NM, PL)) (hs : ∀ k, k < t.K → LevelDone t k i j (sq k) (sq (k + 1))) :
    Calls Try.prog 25 #[.pointer (some ⟨t.p, 0, none⟩), .int .i64 i, .int .i64 j] w (SpanPost w t (sq t.K)) := by
  have hK := F.K64
  have S := St.now
  obtain ⟨AG, cG, hG⟩ := S.cG
  have Hs := Lib.hid hs
  have H0 := Lib.hid h0
  clear hs h0
  go_enter Try.func25, Try.ntmps25
  go_wp2_with fail
  go_loopw [16] (fun cnt wr => SpanRel w t sq cnt wr) (fun cnt _ => t.K - (intOf cnt).toNat)
  case atStart => exact ⟨0, by omega, rfl, Upd.refl _ _, by rw [H0.out]; exact Rw⟩
  case round =>
    obtain ⟨k, hk, rfl, hu, Rr⟩ := hrel
    have HU := Lib.hid hu
    have St' := St.upd hu
    clear hu
    by_cases hlt : k < t.K
    · obtain ⟨n, hrun⟩ := Hs.out k hlt
      have HRN := Lib.hid hrun
      clear hrun
      have b1 : (k : Int) < t.K := by omega
      have R1 := Lib.hid (pass_any St' F Rr (k : Int) true hi0 hij hj)
      go_wp2_with (go_at_call 35; refine R1.out.mono ?_; rintro e w1 ⟨rfl, hu1, Rr1⟩; have HU1 := Lib.hid (HU.out.trans hu1); clear hu1)
      obtain ⟨wp, rfl⟩ : ∃ wp : World, wp = wr := ⟨_, rfl⟩
      go_loopg [7] (n + 1) (fun gk more wi => MoreRel w t k i j (sq (k + 1)) gk more wi)
      case atStart => exact ⟨_, HU1.out, Rr1, .inl ⟨rfl, n, rfl, HRN.out⟩⟩
      case round =>
        obtain ⟨st, hu2, Rr2, ⟨rfl, m, rfl, hrm⟩ | ⟨rfl, rfl, rfl⟩⟩ := hrel
        · have HU2 := Lib.hid hu2
          have St2 := St.upd hu2
          have HM := Lib.hid hrm
          clear hu2 hrm
          have P1 := Lib.hid (pass_any St2 F Rr2 (k : Int) false hi0 hij hj)
          have P2 : Hid (∀ w2 : World, Stat w2 t → Rows w2 t st.1 (passF t k st.1 st.2 false i j).1 → Calls Try.prog 36 #[.pointer (some ⟨t.p, 0, none⟩), .int .i64 k, .int .i64 i, .int .i64 j] w2 (HeadsPost w2 t (passF t k st.1 st.2 false i j).1 (headsF t k st.1 (passF t k st.1 st.2 false i j).1 i j))) :=
            fun w2 S2 R2 => heads_any S2 F R2 k hi0 hij hj
          have hrf : roundF t k i j st = (((headsF t k st.1 (passF t k st.1 st.2 false i j).1 i j).1, (passF t k st.1 st.2 false i j).1), (passF t k st.1 st.2 false i j).2 || (headsF t k st.1 (passF t k st.1 st.2 false i j).1 i j).2) := rfl
          generalize passF t k st.1 st.2 false i j = pf at P1 P2 hrf
          generalize headsF t k st.1 pf.1 i j = hf at P2 hrf
          rcases pf with ⟨pl', pb⟩
          rcases hf with ⟨nm', hb⟩
          cases hm : (pb || hb) with
          | true =>
            obtain ⟨m', rfl, hrm'⟩ := runs_true HM.out (by rw [hrf]; exact hm)
            rw [hrf] at hrm'
            have HM' := Lib.hid hrm'
            clear hrm' hrf
            cases pb <;> cases hb <;> simp only [Bool.or_self, Bool.or_true, Bool.or_false, Bool.false_eq_true] at hm
            all_goals
              go_wp2_with (first | (go_at_call 35; refine P1.out.mono ?_; rintro e w3 ⟨rfl, hu3, Rr3⟩; have HU3 := Lib.hid hu3; have St3 := Lib.hid (St2.upd hu3); have R3 := Lib.hid Rr3; clear hu3 Rr3) | (go_at_call 36; refine (P2.out _ St3.out R3.out).mono ?_; rintro e w4 ⟨rfl, hu4, Rr4⟩; have HU4 := Lib.hid hu4; have R4 := Lib.hid Rr4; clear hu4 Rr4))
              go_roundg (m' + 1)
              case rel => exact ⟨(nm', pl'), HU2.out.trans (HU3.out.trans HU4.out), R4.out, .inl ⟨rfl, m', rfl, HM'.out⟩⟩
              case measure => omega
          | false =>
            obtain ⟨rfl, hfin⟩ := runs_false HM.out (by rw [hrf]; exact hm)
            rw [hrf] at hfin
            have HM' := Lib.hid hfin
            clear hfin hrf
            cases pb <;> cases hb <;> simp only [Bool.or_self, Bool.or_true, Bool.or_false, Bool.true_eq_false] at hm
            all_goals
              go_wp2_with (first | (go_at_call 35; refine P1.out.mono ?_; rintro e w3 ⟨rfl, hu3, Rr3⟩; have HU3 := Lib.hid hu3; have St3 := Lib.hid (St2.upd hu3); have R3 := Lib.hid Rr3; clear hu3 Rr3) | (go_at_call 36; refine (P2.out _ St3.out R3.out).mono ?_; rintro e w4 ⟨rfl, hu4, Rr4⟩; have HU4 := Lib.hid hu4; have R4 := Lib.hid Rr4; clear hu4 Rr4))
              go_roundg 0
              case rel => exact ⟨(nm', pl'), HU2.out.trans (HU3.out.trans HU4.out), R4.out, .inr ⟨rfl, rfl, HM'.out.symm⟩⟩
              case measure => omega
        · have HU2 := Lib.hid hu2
          clear hu2
          go_wp2
          go_roundw
          case rel => exact ⟨k + 1, by omega, by go_num, HU2.out, Rr2⟩
          case measure => simp [intOf]; omega
    · have hz : k = t.K := by omega
      have HZ := Lib.hid hz
      clear hz
      go_wp2
      go_end0
      exact ⟨rfl, HU.out, by rw [← HZ.out]; exact Rr⟩
end Go.Proofs.Ytbidpeggdhkahaa
