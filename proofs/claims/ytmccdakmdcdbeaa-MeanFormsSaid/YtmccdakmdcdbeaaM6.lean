/-
  M6: mean.Table's pass.
-/
import Derived.Test.YtmccdakmdcdbeaaM5
set_option linter.unusedSimpArgs false
set_option linter.unusedVariables false
namespace Go.Proofs.Ytmccdakmdcdbeaa
open Go.RowKit
attribute [local go_sem] max2_mxz max_mxz

def passC (t : TS) (NM : Rk) (neg : Bool) (i j : Int) (r : Nat) (cs : List Conj) (s : Rk × Bool) : Nat → Rk × Bool
  | 0 => s
  | n + 1 => match cs[n]? with
    | none => passC t NM neg i j r cs s n
    | some y =>
      if y.neg = neg then ((conjF t NM (passC t NM neg i j r cs s n).1 y.seq (t.off r n) i j).1, (passC t NM neg i j r cs s n).2 || (conjF t NM (passC t NM neg i j r cs s n).1 y.seq (t.off r n) i j).2)
      else passC t NM neg i j r cs s n
def passTo (t : TS) (level : Int) (NM : Rk) (neg : Bool) (i j : Int) (s : Rk × Bool) : Nat → Rk × Bool
  | 0 => s
  | n + 1 => match t.G.rules[n]? with
    | none => passTo t level NM neg i j s n
    | some x => if t.lev.getD x.head.toNat 0 = level then passC t NM neg i j n x.conj (passTo t level NM neg i j s n) x.conj.length else passTo t level NM neg i j s n
def passF (t : TS) (level : Int) (NM PL : Rk) (neg : Bool) (i j : Int) : Rk × Bool := passTo t level NM neg i j (PL, false) t.G.rules.length
def PassRel (w : World) (t : TS) (level : Int) (NM PL : Rk) (neg : Bool) (i j : Int) (g cnt : Value) (wr : World) : Prop :=
  ∃ (k : Nat) (s : Rk × Bool), k ≤ t.G.rules.length ∧ cnt = .int .i64 k ∧ passTo t level NM neg i j (PL, false) k = s ∧ g = .bool s.2 ∧ Upd t.R w wr ∧ Rows wr t NM s.1
def PassIn (w : World) (t : TS) (NM : Rk) (neg : Bool) (i j : Int) (r : Nat) (cs : List Conj) (s0 : Rk × Bool) (g cnt : Value) (wr : World) : Prop :=
  ∃ (k : Nat) (s : Rk × Bool), k ≤ cs.length ∧ cnt = .int .i64 k ∧ passC t NM neg i j r cs s0 k = s ∧ g = .bool s.2 ∧ Upd t.R w wr ∧ Rows wr t NM s.1

theorem R_lt {w : World} {t : TS} {NM PL : Rk} (h : Rows w t NM PL) {b : Nat} (hb : t.R b) : b < w.heap.size := by
  rcases hb with ⟨k, hk, rfl⟩ | ⟨k, hk, rfl⟩
  · exact World.block_lt_of_cell? w _ (h.n k 0 0 hk (by omega) (by omega) (by omega) (by omega)).1
  · exact World.block_lt_of_cell? w _ (h.p k 0 0 hk (by omega) (by omega) (by omega) (by omega)).1

set_option maxRecDepth 100000 in
set_option maxHeartbeats 2000000 in
theorem pass_any {w : World} {t : TS} {NM PL : Rk} (St : Stat w t) (F : t.Fits) (Rw : Rows w t NM PL) (level : Int) (neg : Bool)
    {i j : Int} (hi0 : 0 ≤ i) (hij : i ≤ j) (hj : j ≤ t.W.size) :
    Calls Try.prog 39 #[.pointer (some ⟨t.p, 0, none⟩), .int .i64 level, .bool neg, .int .i64 i, .int .i64 j] w (ConjPost w t NM PL (passF t level NM PL neg i j)) := by
  have hK := F.K64
  have hLn := F.lev
  have S := St.now
  have hrn := F.rules
  obtain ⟨cR, hR⟩ := S.cR
  go_enter Try.func39, Try.ntmps39
  go_wp2_with fail
  go_loopw [11, 21] (fun g cnt wr => PassRel w t level NM PL neg i j g cnt wr) (fun _ cnt _ => t.G.rules.length - (intOf cnt).toNat)
  case atStart => exact ⟨0, (PL, false), by omega, rfl, rfl, rfl, Upd.refl _ _, Rw⟩
  case round =>
    obtain ⟨r, s, hk, rfl, hto, rfl, hu, Rr⟩ := hrel
    have HU := Lib.hid hu
    have HT := Lib.hid hto
    have St' := St.upd hu
    have S' := St'.now
    clear hu hto
    by_cases hlt : r < t.G.rules.length
    · have hr : t.G.rules[r]? = some t.G.rules[r] := List.getElem?_eq_getElem hlt
      obtain ⟨x, hx⟩ : ∃ x, x = t.G.rules[r] := ⟨_, rfl⟩
      rw [← hx] at hr
      clear hx
      obtain ⟨ra, cC, era, lr, r0, r1⟩ := S'.gR.rul r x hr
      have hh := F.head r x hr
      have hh0 := hh.1
      have hh1 := hh.2
      have hcl := (F.conj r x hr).2
      clear hh
      have hcl1 := (F.conj r x hr).1
      obtain ⟨y0, hy0⟩ : ∃ y, x.conj[0]? = some y := ⟨_, List.getElem?_eq_getElem (by omega)⟩
      obtain ⟨ca, _, eca, -, -, -⟩ := S'.gR.con r x 0 y0 hr hy0
      have ECA := Lib.hid eca
      rw [eca] at r1
      clear hy0 eca hcl1
      have f1 := S'.cL
      have hl2 : t.lev[x.head.toNat]? = some t.lev[x.head.toNat] := List.getElem?_eq_getElem (by omega)
      have hl3 : t.lev.getD x.head.toNat 0 = t.lev[x.head.toNat] := by rw [List.getD_eq_getElem?_getD, hl2]; rfl
      rw [← hl3] at hl2
      clear hl3
      obtain ⟨la, ela, f2⟩ := (Rd.C.one S'.gL hl2)
      rw [ela] at f1
      obtain ⟨lv, hlv⟩ : ∃ v, v = t.lev.getD x.head.toNat 0 := ⟨_, rfl⟩
      rw [← hlv] at f2
      have hs : passTo t level NM neg i j (PL, false) (r + 1) = if lv = level then passC t NM neg i j r x.conj s x.conj.length else s := by simp only [passTo, hr, HT.out, hlv]
      have b5 : (r : Int) < t.G.rules.length := by omega
      have b6 : x.head < (t.lev.length : Int) := by omega
      have hb1 : Below wr.heap.size wr (wr.alloc (Obj.cells #[Value.int .i64 x.head, Value.slice (some ca) x.conj.length cC] 53)) := (Below.refl _ _).alloc (Nat.le_refl _) _
      have n0 : (wr.alloc (Obj.cells #[Value.int .i64 x.head, Value.slice (some ca) x.conj.length cC] 53)).cell? ⟨wr.heap.size, 0, none⟩ = some (.int .i64 x.head) := by simp
      have n3 : (wr.alloc (Obj.cells #[Value.int .i64 x.head, Value.slice (some ca) x.conj.length cC] 53)).cell? ⟨wr.heap.size, 1, none⟩ = some (.slice (some ca) x.conj.length cC) := by simp
      have n1 := below_cell hb1 f1
      have n2 := below_cell hb1 f2
      have HB1 := Lib.hid hb1
      clear hl2 hb1 hlv
      by_cases hlev : lv = level
      · rw [if_pos hlev] at hs
        have HS := Lib.hid hs
        have d1 : (lv != level) = false := by simpa using hlev
        clear hs hlev
        rw [era]
        go_wp2_with fail
        have hN : ¬ t.R wr.heap.size := fun h => Nat.lt_irrefl _ (R_lt Rr h)
        have HN := Lib.hid hN
        obtain ⟨b0, hb0⟩ : ∃ b, b = wr.heap.size := ⟨_, rfl⟩
        generalize (wr.alloc (Obj.cells #[Value.int .i64 x.head, Value.slice (some ca) x.conj.length cC] 53)) = w1 at HB1 n0 n1 n2 n3 ⊢
        go_quiet (fail)
        clear hN
        go_wp2_with fail
        have m3 : (w1.drewN nq).cell? ⟨wr.heap.size, 1, none⟩ = some (.slice (some ca) x.conj.length cC) := n3
        have HB2 := Lib.hid (pw_below_drewN HB1.out nq)
        clear n0 n1 n2 n3 f1 f2 HB1
        generalize w1.drewN nq = wo at HB2 m3 ⊢
        have R1 := Lib.hid (Rr.below HB2.out)
        have St1 := Lib.hid (St'.below HB2.out)
        have m3' := Lib.hid m3
        clear m3
        have m3 : Hid (wo.cell? ⟨wr.heap.size, 1, none⟩ = some (.slice (some ca) x.conj.length cC)) := m3'
        obtain ⟨wp, rfl⟩ : ∃ wp : World, wp = wr := ⟨_, rfl⟩
        go_loopw [11, 39] (fun g cnt wi => PassIn wo t NM neg i j r x.conj s g cnt wi) (fun _ cnt _ => x.conj.length - (intOf cnt).toNat)
        case atStart => exact ⟨0, s, by omega, rfl, rfl, rfl, Upd.refl _ _, R1.out⟩
        case round =>
          obtain ⟨k, q, hkk, rfl, htk, rfl, huk, Rk⟩ := hrel
          have HUK := Lib.hid huk
          have HTK := Lib.hid htk
          have Stk := St1.out.upd huk
          have m4 := huk.cell m3.out HN.out
          clear huk htk
          by_cases hltk : k < x.conj.length
          · have hc : x.conj[k]? = some x.conj[k] := List.getElem?_eq_getElem hltk
            obtain ⟨y, hy⟩ : ∃ y, y = x.conj[k] := ⟨_, rfl⟩
            rw [← hy] at hc
            clear hy
            obtain ⟨ca', cS, eca, lc, c0, c1⟩ := Stk.now.gR.con r x k y hr hc
            have : ca' = ca := by rw [ECA.out] at eca; injection eca with e; exact e.symm
            subst this
            have hs : passC t NM neg i j r x.conj s (k + 1) = if y.neg = neg then ((conjF t NM q.1 y.seq (t.off r k) i j).1, q.2 || (conjF t NM q.1 y.seq (t.off r k) i j).2) else q := by simp only [passC, hc, HTK.out]
            have b7 : (k : Int) < x.conj.length := by omega
            clear eca c1
            by_cases hn : y.neg = neg
            · rw [if_pos hn] at hs
              obtain ⟨cf, hcf⟩ : ∃ z, z = conjF t NM q.1 y.seq (t.off r k) i j := ⟨_, rfl⟩
              rw [← hcf] at hs
              have R3 : Calls Try.prog 50 #[.pointer (some ⟨t.p, 0, none⟩), .int .i64 r, .int .i64 k, .int .i64 i, .int .i64 j] wr (ConjPost wr t NM q.1 cf) := by
                rw [hcf]
                exact conj_any Stk F Rk hr hc hi0 hij hj
              have HR3 := Lib.hid R3
              have d2 : (y.neg == neg) = true := by simpa using hn
              have HS := Lib.hid hs
              clear R3 hs hn hcf hc
              cases hcf2 : cf.2 with
              | true =>
                go_wp2_with (go_at_call 50; refine HR3.out.mono ?_; rintro e w' ⟨rfl, hu', hR'⟩; rw [hcf2]; have HU' := Lib.hid hu'; clear hu')
                go_roundw
                case rel => exact ⟨k + 1, (cf.1, true), by omega, by go_num, by rw [HS.out, hcf2]; simp, rfl, HUK.out.trans HU'.out, hR'⟩
                case measure => simp [intOf]; omega
              | false =>
                go_wp2_with (go_at_call 50; refine HR3.out.mono ?_; rintro e w' ⟨rfl, hu', hR'⟩; rw [hcf2]; have HU' := Lib.hid hu'; clear hu')
                go_roundw
                case rel => exact ⟨k + 1, (cf.1, q.2), by omega, by go_num, by rw [HS.out, hcf2]; simp, rfl, HUK.out.trans HU'.out, hR'⟩
                case measure => simp [intOf]; omega
            · rw [if_neg hn] at hs
              have HS := Lib.hid hs
              have d2 : (y.neg == neg) = false := by simpa using hn
              clear hs hn hc
              go_wp2
              go_roundw
              case rel => exact ⟨k + 1, q, by omega, by go_num, HS.out, rfl, HUK.out, Rk⟩
              case measure => simp [intOf]; omega
          · have hz : passC t NM neg i j r x.conj s x.conj.length = q := by rw [show x.conj.length = k by omega]; exact HTK.out
            have HZ := Lib.hid hz
            clear hz
            go_wp2
            go_roundw
            case rel => exact ⟨r + 1, q, by omega, by go_num, by rw [HS.out, HZ.out], rfl, (HU.out.trans (Upd.of_below HB2.out)).trans HUK.out, Rk⟩
            case measure => simp [intOf]; omega
      · rw [if_neg hlev] at hs
        have HS := Lib.hid hs
        have d1 : (lv != level) = true := by simpa using hlev
        clear hs hlev
        rw [era]
        go_wp2_with fail
        generalize (wr.alloc (Obj.cells #[Value.int .i64 x.head, Value.slice (some ca) x.conj.length cC] 53)) = w1 at HB1 n0 n1 n2 n3 ⊢
        go_quiet (fail)
        go_wp2
        go_roundw
        case rel => exact ⟨r + 1, s, by omega, by go_num, HS.out, rfl, HU.out.trans (Upd.drewN (Upd.of_below HB1.out) _), Rr.below (pw_below_drewN HB1.out _)⟩
        case measure => simp [intOf]; omega
    · have hz : passF t level NM PL neg i j = s := by unfold passF; rw [show t.G.rules.length = r by omega]; exact HT.out
      have HZ := Lib.hid hz
      clear hz
      go_wp2
      go_ret
      exact ⟨by rw [HZ.out]; rfl, HU.out, by rw [HZ.out]; exact Rr⟩
end Go.Proofs.Ytmccdakmdcdbeaa
