/-
  M5: mean.Table's heads.
-/
import Derived.Test.YtmccdakmdcdbeaaM4
set_option linter.unusedSimpArgs false
set_option linter.unusedVariables false
namespace Go.Proofs.Ytmccdakmdcdbeaa
open Go.RowKit
attribute [local go_sem] max2_mxz max_mxz

def headsStep (t : TS) (level : Int) (PL : Rk) (i j : Int) (r : Nat) (x : Rul) (s : Rk × Bool) : Rk × Bool :=
  if t.lev.getD x.head.toNat 0 = level then
    (if lessB (s.1 x.head.toNat i j) (ruleF t PL r x.conj i j) then (putR s.1 x.head.toNat i j (ruleF t PL r x.conj i j), true) else s)
  else s
def headsTo (t : TS) (level : Int) (PL : Rk) (i j : Int) (s : Rk × Bool) : Nat → Rk × Bool
  | 0 => s
  | n + 1 => match t.G.rules[n]? with
    | none => headsTo t level PL i j s n
    | some x => headsStep t level PL i j n x (headsTo t level PL i j s n)
def headsF (t : TS) (level : Int) (NM PL : Rk) (i j : Int) : Rk × Bool := headsTo t level PL i j (NM, false) t.G.rules.length
def HeadsRel (w : World) (t : TS) (level : Int) (NM PL : Rk) (i j : Int) (g cnt : Value) (wr : World) : Prop :=
  ∃ (k : Nat) (s : Rk × Bool), k ≤ t.G.rules.length ∧ cnt = .int .i64 k ∧ headsTo t level PL i j (NM, false) k = s ∧ g = .bool s.2 ∧ Upd t.R w wr ∧ Rows wr t s.1 PL
def HeadsPost (w : World) (t : TS) (PL : Rk) (s : Rk × Bool) (e : Ending) (w' : World) : Prop :=
  e = .returned (.bool s.2) ∧ Upd t.R w w' ∧ Rows w' t s.1 PL

theorem lev_at {w : World} {t : TS} (S : Static w t) {ad : Addr} (he : t.la = some ad) {n : Nat} {v : Int} (h : t.lev[n]? = some v) : w.cell? (ad.add n) = some (.int .i64 v) := by
  obtain ⟨ad', e, hc⟩ := Rd.C.one S.gL h
  rw [he] at e
  cases e
  exact hc
set_option maxRecDepth 100000 in
set_option maxHeartbeats 2000000 in
theorem heads_any {w : World} {t : TS} {NM PL : Rk} (St : Stat w t) (F : t.Fits) (Rw : Rows w t NM PL) (level : Int)
    {i j : Int} (hi0 : 0 ≤ i) (hij : i ≤ j) (hj : j ≤ t.W.size) :
    Calls Try.prog 40 #[.pointer (some ⟨t.p, 0, none⟩), .int .i64 level, .int .i64 i, .int .i64 j] w (HeadsPost w t PL (headsF t level NM PL i j)) := by
  have hQ := F.Q
  have hW := F.W32
  have hK := F.K64
  have hLn := F.lev
  have S := St.now
  have hrn := F.rules
  obtain ⟨cR, hR⟩ := S.cR
  go_enter Try.func40, Try.ntmps40
  go_wp2_with fail
  go_loopw [9, 18] (fun g cnt wr => HeadsRel w t level NM PL i j g cnt wr) (fun _ cnt _ => t.G.rules.length - (intOf cnt).toNat)
  case atStart => exact ⟨0, (NM, false), by omega, rfl, rfl, rfl, Upd.refl _ _, Rw⟩
  case round =>
    obtain ⟨r, s, hk, rfl, hto, rfl, hu, Rr⟩ := hrel
    have HU := Lib.hid hu
    have HT := Lib.hid hto
    have St' := St.upd hu
    have S' := St'.now
    clear hu hto
    by_cases hlt : r < t.G.rules.length
    · have hr : t.G.rules[r]? = some t.G.rules[r] := List.getElem?_eq_getElem hlt
      obtain ⟨x, hx⟩ : ∃ x, x = t.G.rules[r] := ⟨_, rfl⟩
      rw [← hx] at hr
      clear hx
      obtain ⟨ra, cC, era, lr, r0, r1⟩ := S'.gR.rul r x hr
      have hh := F.head r x hr
      have hh0 := hh.1
      have hh1 := hh.2
      clear hh
      have f1 := S'.cL
      have hl2 : t.lev[x.head.toNat]? = some t.lev[x.head.toNat] := List.getElem?_eq_getElem (by omega)
      have hl3 : t.lev.getD x.head.toNat 0 = t.lev[x.head.toNat] := by rw [List.getD_eq_getElem?_getD, hl2]; rfl
      rw [← hl3] at hl2
      clear hl3
      obtain ⟨la, ela, f2⟩ := (Rd.C.one S'.gL hl2)
      rw [ela] at f1
      obtain ⟨lv, hlv⟩ : ∃ v, v = t.lev.getD x.head.toNat 0 := ⟨_, rfl⟩
      rw [← hlv] at f2
      have f3 := S'.cN
      have f4 := S'.rN x.head.toNat (by omega)
      have kb := key_bd t hi0 (by omega) (by omega) hj
      have hs : headsTo t level PL i j (NM, false) (r + 1) = headsStep t level PL i j r x s := by simp only [headsTo, hr, HT.out]
      unfold headsStep at hs
      rw [← hlv] at hs
      have b5 : (r : Int) < t.G.rules.length := by omega
      have b6 : x.head < (t.lev.length : Int) := by omega
      have hb1 : Below wr.heap.size wr (wr.alloc (Obj.cells #[Value.int .i64 x.head, Value.slice (t.ca r) x.conj.length cC] 53)) := (Below.refl _ _).alloc (Nat.le_refl _) _
      have n0 : (wr.alloc (Obj.cells #[Value.int .i64 x.head, Value.slice (t.ca r) x.conj.length cC] 53)).cell? ⟨wr.heap.size, 0, none⟩ = some (.int .i64 x.head) := by simp
      have n1 := below_cell hb1 f1
      have n2 := below_cell hb1 f2
      have n3 := below_cell hb1 f3
      have n4 := below_cell hb1 f4
      have HB1 := Lib.hid hb1
      have HLV := Lib.hid hlv
      have HEL := Lib.hid ela
      have HL2 := Lib.hid hl2
      clear hl2 hb1 hlv ela
      by_cases hlev : lv = level
      · rw [if_pos hlev] at hs
        obtain ⟨rk, hrk⟩ : ∃ v, v = ruleF t PL r x.conj i j := ⟨_, rfl⟩
        rw [← hrk] at hs
        have St1 := Lib.hid (St'.below HB1.out)
        have R1 := Lib.hid (Rr.below HB1.out)
        have R3 : Calls Try.prog 52 #[.pointer (some ⟨t.p, 0, none⟩), .int .i64 r, .int .i64 i, .int .i64 j] (wr.alloc (Obj.cells #[Value.int .i64 x.head, Value.slice (t.ca r) x.conj.length cC] 53)).drew
            fun e w' => e = .returned (.int .i64 rk) ∧ Below (wr.alloc (Obj.cells #[Value.int .i64 x.head, Value.slice (t.ca r) x.conj.length cC] 53)).heap.size (wr.alloc (Obj.cells #[Value.int .i64 x.head, Value.slice (t.ca r) x.conj.length cC] 53)).drew w' := by
          rw [hrk]
          exact rule_any St1.out.drew F R1.out.drew hr hi0 hij hj
        have HR1 := Lib.hid R3
        have d1 : (lv == level) = true := by simpa using hlev
        clear R3 hrk hlev
        have NE : Hid (t.nr x.head.toNat ≠ wr.heap.size) := by
          have := World.block_lt_of_cell? wr _ (Rr.n x.head.toNat i j (by omega) (by omega) (by omega) (by omega) (by omega)).1
          exact Nat.ne_of_lt this
        rw [era]
        cases hl : lessB (s.1 x.head.toNat i j) rk with
        | false =>
          rw [hl] at hs
          simp only [Bool.false_eq_true, if_false] at hs
          have HS := Lib.hid hs
          have HL := Lib.hid hl
          clear hs hl
          go_wp2_with fail
          generalize (wr.alloc (Obj.cells #[Value.int .i64 x.head, Value.slice (t.ca r) x.conj.length cC] 53)) = w1 at HB1 n0 n1 n2 n3 n4 St1 R1 HR1 ⊢
          go_region_held3 (fun w' => w'.cell? ⟨t.p, 4, none⟩ = some (.slice (some la) t.lev.length t.xL) ∧ w'.cell? (la.add x.head.toNat) = some (.int .i64 lv) ∧ w'.cell? ⟨wr.heap.size, 0, none⟩ = some (.int .i64 x.head) ∧ w'.cell? ⟨t.p, 5, none⟩ = some (.slice (some ⟨t.nb, 0, none⟩) t.K t.xN) ∧ w'.cell? ⟨t.nb, x.head.toNat, none⟩ = some (.slice (some ⟨t.nr x.head.toNat, 0, none⟩) t.S (t.yN x.head.toNat))) (first | exact ⟨j1, j2, j0, j3, j4⟩ | exact ⟨n1, n2, n0, n3, n4⟩)
            (first | (go_at_call 52; refine HR1.out.mono ?_; rintro e w2 ⟨rfl, hb2⟩; have j1 := below_cell (w := w1.drew) hb2 n1; have j2 := below_cell (w := w1.drew) hb2 n2; have j0 := below_cell (w := w1.drew) hb2 n0; have j3 := below_cell (w := w1.drew) hb2 n3; have j4 := below_cell (w := w1.drew) hb2 n4; have R2 := Lib.hid (R1.out.drew.below hb2); have S2 := Lib.hid (St1.out.drew.below hb2); have HB2 := Lib.hid hb2; have hz2 := hb2.size; clear hb2) | (go_at_call 51; refine (less_no t.p t.W (t.nr x.head.toNat) (t.yN x.head.toNat) t.S i j rk (s.1 x.head.toNat i j) _ S2.out.now.cW hW hi0 (by omega) (by omega) hj kb.2 (R2.out.n x.head.toNat i j (by omega) (by omega) (by omega) (by omega) (by omega)).1 (R2.out.n x.head.toNat i j (by omega) (by omega) (by omega) (by omega) (by omega)).2 HL.out).mono ?_; rintro e w3 ⟨rfl, rfl⟩))
          clear n0 n1 n2 n3 n4 f1 f2 f3 f4
          go_wp2
          go_roundw
          case rel => exact ⟨r + 1, s, by omega, by go_num, HS.out, rfl, HU.out.trans (((Upd.of_below HB1.out).trans ((Upd.refl t.R _).drew.trans (Upd.of_below (a := w1.drew) HB2.out)))), R2.out⟩
          case measure => simp [intOf]; omega
        | true =>
          rw [hl] at hs
          simp only [if_true] at hs
          have HS := Lib.hid hs
          have HL := Lib.hid hl
          clear hs hl
          go_wp2_with fail
          generalize (wr.alloc (Obj.cells #[Value.int .i64 x.head, Value.slice (t.ca r) x.conj.length cC] 53)) = w1 at HB1 n0 n1 n2 n3 n4 St1 R1 HR1 ⊢
          go_region_held3 (fun w' => w'.cell? ⟨t.p, 4, none⟩ = some (.slice (some la) t.lev.length t.xL) ∧ w'.cell? (la.add x.head.toNat) = some (.int .i64 lv) ∧ w'.cell? ⟨wr.heap.size, 0, none⟩ = some (.int .i64 x.head) ∧ w'.cell? ⟨t.p, 5, none⟩ = some (.slice (some ⟨t.nb, 0, none⟩) t.K t.xN) ∧ w'.cell? ⟨t.nb, x.head.toNat, none⟩ = some (.slice (some ⟨t.nr x.head.toNat, 0, none⟩) t.S (t.yN x.head.toNat))) (first | exact ⟨k1, k2, k0, k3, k4⟩ | exact ⟨j1, j2, j0, j3, j4⟩ | exact ⟨n1, n2, n0, n3, n4⟩)
            (first | (go_at_call 52; refine HR1.out.mono ?_; rintro e w2 ⟨rfl, hb2⟩; have j1 := below_cell (w := w1.drew) hb2 n1; have j2 := below_cell (w := w1.drew) hb2 n2; have j0 := below_cell (w := w1.drew) hb2 n0; have j3 := below_cell (w := w1.drew) hb2 n3; have j4 := below_cell (w := w1.drew) hb2 n4; have R2 := Lib.hid (R1.out.drew.below hb2); have S2 := Lib.hid (St1.out.drew.below hb2); have HB2 := Lib.hid hb2; have hz2 := hb2.size; clear hb2) | (go_at_call 51; refine (less_yes t.p t.W (t.nr x.head.toNat) (t.yN x.head.toNat) t.S i j rk (s.1 x.head.toNat i j) _ S2.out.now.cW hW hi0 (by omega) (by omega) hj kb.2 (R2.out.n x.head.toNat i j (by omega) (by omega) (by omega) (by omega) (by omega)).1 (R2.out.n x.head.toNat i j (by omega) (by omega) (by omega) (by omega) (by omega)).2 HL.out).mono ?_; rintro e w3 ⟨rfl, rfl⟩; have U3 := Lib.hid ((Upd.refl t.R w2).setCell (p := ⟨t.nr x.head.toNat, (i * (t.W.size + 1) + j).toNat, none⟩) (.inl ⟨x.head.toNat, by omega, rfl⟩) (.int .i64 rk)); have k1 := (S2.out.upd U3.out).now.cL; rw [HEL.out] at k1; have k2 := lev_at (S2.out.upd U3.out).now HEL.out HL2.out; rw [← HLV.out] at k2; have k0 := keep_set (b := ⟨t.nr x.head.toNat, (i * (t.W.size + 1) + j).toNat, none⟩) (u := .int .i64 rk) j0 NE.out; have k3 := (S2.out.upd U3.out).now.cN; have k4 := (S2.out.upd U3.out).now.rN x.head.toNat (by omega)))
          clear n0 n1 n2 n3 n4 f1 f2 f3 f4
          go_wp2
          go_roundw
          case rel => exact ⟨r + 1, (putR s.1 x.head.toNat i j rk, true), by omega, by go_num, HS.out, rfl, HU.out.trans (((Upd.of_below HB1.out).trans ((Upd.refl t.R _).drew.trans (Upd.of_below (a := w1.drew) HB2.out))).trans U3.out), R2.out.putN F (by omega) (by omega) (by omega) (by omega) (by omega) rk⟩
          case measure => simp [intOf]; omega
      · rw [if_neg hlev] at hs
        have HS := Lib.hid hs
        have d1 : (lv == level) = false := by simpa using hlev
        clear hs hlev
        rw [era]
        go_wp2_with fail
        generalize (wr.alloc (Obj.cells #[Value.int .i64 x.head, Value.slice (t.ca r) x.conj.length cC] 53)) = w1 at HB1 n0 n1 n2 n3 n4 ⊢
        go_quiet (fail)
        go_wp2
        go_roundw
        case rel => exact ⟨r + 1, s, by omega, by go_num, HS.out, rfl, HU.out.trans (Upd.drewN (Upd.of_below HB1.out) _), Rr.below (pw_below_drewN HB1.out _)⟩
        case measure => simp [intOf]; omega
    · have hz : headsF t level NM PL i j = s := by unfold headsF; rw [show t.G.rules.length = r by omega]; exact HT.out
      have HZ := Lib.hid hz
      clear hz
      go_wp2
      go_ret
      exact ⟨by rw [HZ.out]; rfl, HU.out, by rw [HZ.out]; exact Rr⟩
end Go.Proofs.Ytmccdakmdcdbeaa
