/-
  H5: check.rising; the checker's shape.
-/
import Derived.Test.YtfmfoiecphhhiaaH4
set_option linter.unusedSimpArgs false
set_option linter.unusedVariables false
namespace Go.Proofs.Ytfmfoiecphhhiaa
open Go.RowKit

set_option maxRecDepth 100000 in
set_option maxHeartbeats 4000000 in
theorem rising_any {w : World} {ps : List Pck} {A : Option Addr} {c : Nat} (h1 : ps.length ≤ c) (h2 : c ≤ 9223372036854775807) (hC : pckRd.C w A ps) :
    Calls Try.prog 42 #[.slice A ps.length c] w fun e w' => e = .returned (.bool (risingB ps)) ∧ Below w.heap.size w w' := by
  have HC := Lib.hid hC
  clear hC
  go_enter Try.func42, Try.ntmps42
  go_wp2_with fail
  go_loopw [6] (fun cnt wr => RangeTo ps.length (riseAt ps) w cnt wr) (fun cnt _ => ps.length - (intOf cnt).toNat)
  case atStart => exact ⟨0, rfl, Nat.zero_le _, rfl, below_refl _⟩
  case round =>
    obtain ⟨i, rfl, hi, hall, hb⟩ := hrel
    have HB := Lib.hid hb
    have HA := Lib.hid hall
    have HC2 := Lib.hid (HC.out.mono hb)
    clear hb hall
    by_cases hlt : i < ps.length
    · obtain ⟨p, hp⟩ : ∃ p, ps[i]? = some p := ⟨_, List.getElem?_eq_getElem hlt⟩
      obtain ⟨pd, A1, c1, eA, hPk⟩ := pck_at HC2.out hp
      subst eA
      have z0 := hPk.c0
      have z1 := hPk.c1
      have b1 : (i : Int) < ps.length := by omega
      have HP := Lib.hid hp
      clear hPk hp
      by_cases hc : p.cj = 0
      · have d1 : (p.cj != 0) = false := by simp [hc]
        have d1' : (p.cj == 0) = true := by simp [hc]
        rw [hc] at z1
        cases i with
        | zero =>
          have HV := Lib.hid (show riseAt ps 0 = true by unfold riseAt; rw [HP.out]; simp [hc])
          have ez : pd.add (0 * 3) = pd := by unfold Addr.add; simp
          rw [ez] at z0 z1
          have b0 : (0 : Int) < ps.length := by omega
          clear hc d1 d1' ez
          go_wp2_with fail
          go_quiet (fail)
          go_wp2_with fail
          go_roundw
          case rel => exact ⟨1, by go_num, by omega, by rw [range_succ_all, HV.out]; rfl, pw_below_drewN HB.out _⟩
          case measure => simp [intOf]; omega
        | succ m =>
          obtain ⟨q, hq⟩ : ∃ q, ps[m]? = some q := ⟨_, List.getElem?_eq_getElem (by omega)⟩
          obtain ⟨pd', A2, c2, eA, hPk⟩ := pck_at HC2.out hq
          obtain rfl : pd' = pd := by injection eA with e; exact e.symm
          have y0 := hPk.c0
          have HL := Lib.hid (show riseAt ps (m + 1) = decide (q.sp < p.sp) by unfold riseAt; rw [HP.out]; simp [hc, hq])
          have dm : decide ((0 : Int) < ((m + 1 : Nat) : Int)) = true := decide_eq_true (by omega)
          have dm' : decide ((0 : Int) < (m : Int) + 1) = true := decide_eq_true (by omega)
          have b2 : (m : Int) < ps.length := by omega
          clear hPk hq eA hc d1 d1'
          by_cases hr : p.sp ≤ q.sp
          · have HV := Lib.hid (show riseAt ps (m + 1) = false by rw [HL.out]; exact decide_eq_false (by omega))
            have d2 : decide (p.sp ≤ q.sp) = true := by simpa using hr
            clear hr
            go_wp2_with fail
            go_quiet (fail)
            go_wp2_with fail
            go_ret
            exact ⟨by unfold risingB; rw [range_bad (q := m + 1) (by omega) HV.out, Bool.and_false]; rfl, pw_below_drewN HB.out _⟩
          · have HV := Lib.hid (show riseAt ps (m + 1) = true by rw [HL.out]; exact decide_eq_true (by omega))
            have d2 : decide (p.sp ≤ q.sp) = false := by simpa using hr
            clear hr
            go_wp2_with fail
            go_quiet (fail)
            go_wp2_with fail
            go_roundw
            case rel => exact ⟨m + 2, by go_num, by omega, by rw [range_succ_all, HA.out, HV.out]; rfl, pw_below_drewN HB.out _⟩
            case measure => simp [intOf]; omega
      · have d1 : (p.cj != 0) = true := by simp [hc]
        have HV := Lib.hid (show riseAt ps i = false by unfold riseAt; rw [HP.out]; simp [hc])
        clear hc
        go_wp2_with fail
        go_quiet (fail)
        go_wp2_with fail
        go_ret
        exact ⟨by unfold risingB; rw [range_bad (q := i) (by omega) HV.out, Bool.and_false]; rfl, pw_below_drewN HB.out _⟩
    · have hie : i = ps.length := by omega
      subst hie
      go_wp2_with fail
      go_ret
      exact ⟨by unfold risingB; rw [HA.out, Bool.and_true]; exact ret_bool (by simp), HB.out⟩

set_option maxRecDepth 100000 in
set_option maxHeartbeats 8000000 in
theorem shape_any {w : World} {k : CK} (h : CkAt w k) (F : k.Fits) {na : Addr} {x : Nod} {A : Option Addr} {c : Nat} (hn : NodAt w na x A c) :
    Calls Try.prog 25 #[.pointer (some ⟨k.p, 0, none⟩), .pointer (some na)] w fun e w' => e = .returned (.bool (shapeB k.G k.W x)) ∧ Below w.heap.size w w' := by
  have hK := F.may.K64
  have hW := F.W32
  have p0 := h.p0
  have p1 := h.p1
  have g1 := h.g1
  have z1 := hn.c1
  have z2 := hn.c2
  have z3 := hn.c3
  have z4 := hn.c4
  have z5 := hn.c5
  have z6 := hn.c6
  have z7 := hn.c7
  have H := Lib.hid h
  have HN := Lib.hid hn
  clear h hn
  by_cases h1 : x.i < 0
  · have HZ := Lib.hid (show shapeB k.G k.W x = false by unfold shapeB; rw [decide_eq_false (by omega)]; rfl)
    have d1 : decide (x.i < 0) = true := by simpa using h1
    clear h1
    go_enter Try.func25, Try.ntmps25
    go_wp2_with fail
    go_quiet (fail)
    go_wp2_with fail
    go_ret
    exact ⟨by rw [HZ.out]; rfl, pw_below_drewN (below_refl _) _⟩
  · have d1 : decide (x.i < 0) = false := by simpa using h1
    by_cases h2 : x.j < x.i
    · have HZ := Lib.hid (show shapeB k.G k.W x = false by unfold shapeB; rw [decide_eq_false (p := x.i ≤ x.j) (by omega)]; simp)
      have d2 : decide (x.j < x.i) = true := by simpa using h2
      clear h1 h2
      go_enter Try.func25, Try.ntmps25
      go_wp2_with fail
      go_quiet (fail)
      go_wp2_with fail
      go_ret
      exact ⟨by rw [HZ.out]; rfl, pw_below_drewN (below_refl _) _⟩
    · have d2 : decide (x.j < x.i) = false := by simpa using h2
      by_cases h3 : (k.W.size : Int) < x.j
      · have HZ := Lib.hid (show shapeB k.G k.W x = false by unfold shapeB; rw [decide_eq_false (p := x.j ≤ k.W.size) (by omega)]; simp)
        have d3 : decide ((k.W.size : Int) < x.j) = true := by simpa using h3
        clear h1 h2 h3
        go_enter Try.func25, Try.ntmps25
        go_wp2_with fail
        go_quiet (fail)
        go_wp2_with fail
        go_ret
        exact ⟨by rw [HZ.out]; rfl, pw_below_drewN (below_refl _) _⟩
      · have d3 : decide ((k.W.size : Int) < x.j) = false := by simpa using h3
        have HS := Lib.hid (show shapeB k.G k.W x = (if x.kind = 0 then decide (0 ≤ x.name) && decide (x.name < k.G.names.length) && decide (x.plc = ⟨0, 0, 0⟩) else decide (x.kind = 1) && decide (x.name = 0) && plcB k.G x.plc) by
          unfold shapeB; rw [decide_eq_true (p := 0 ≤ x.i) (by omega), decide_eq_true (p := x.i ≤ x.j) (by omega), decide_eq_true (p := x.j ≤ k.W.size) (by omega)]; rfl)
        clear h1 h2 h3
        by_cases hk : x.kind = 0
        · rw [hk] at z1
          have HS2 := Lib.hid (HS.out.trans (if_pos hk))
          clear HS
          by_cases h4 : x.name < 0
          · have d4 : decide (0 ≤ x.name) = false := by simp; omega
            have HZ := Lib.hid (show shapeB k.G k.W x = false by rw [HS2.out, d4]; rfl)
            clear h4
            go_enter Try.func25, Try.ntmps25
            go_wp2_with fail
            go_quiet (fail)
            go_wp2_with fail
            go_quiet (fail)
            go_wp2_with fail
            go_ret
            exact ⟨by rw [HZ.out]; rfl, pw_below_drewN (pw_below_drewN (below_refl _) _) _⟩
          · have d4 : decide (0 ≤ x.name) = true := by simp; omega
            by_cases h5 : x.name < k.G.names.length
            · have d5 : decide (x.name < (k.G.names.length : Int)) = true := by simpa using h5
              have KE : ∀ w, (binOp .eql 34 (.agg #[.int .i64 x.plc.rule, .int .i64 x.plc.conj, .int .i64 x.plc.pos]) (.agg #[.int .i64 0, .int .i64 0, .int .i64 0])).run Try.prog w = .ok (.bool (decide (x.plc = ⟨0, 0, 0⟩))) w := run_plc_eql x.plc ⟨0, 0, 0⟩
              have HZ := Lib.hid (show shapeB k.G k.W x = decide (x.plc = ⟨0, 0, 0⟩) by rw [HS2.out, d4, d5]; rfl)
              clear h4 h5
              go_enter Try.func25, Try.ntmps25
              go_wp2_with fail
              go_quiet (fail)
              go_wp2_with fail
              go_quiet (fail)
              go_wp2_with fail
              go_ret
              exact ⟨by rw [HZ.out]; rfl, pw_below_drewN (pw_below_drewN (below_refl _) _) _⟩
            · have d5 : decide (x.name < (k.G.names.length : Int)) = false := by simpa using h5
              have HZ := Lib.hid (show shapeB k.G k.W x = false by rw [HS2.out, d5]; simp)
              clear h4 h5
              go_enter Try.func25, Try.ntmps25
              go_wp2_with fail
              go_quiet (fail)
              go_wp2_with fail
              go_quiet (fail)
              go_wp2_with fail
              go_ret
              exact ⟨by rw [HZ.out]; rfl, pw_below_drewN (pw_below_drewN (below_refl _) _) _⟩
        · have d0 : (x.kind == 0) = false := by simpa using hk
          have HS2 := Lib.hid (HS.out.trans (if_neg hk))
          clear HS
          by_cases h4 : x.kind = 1
          · rw [h4] at z1 d0
            by_cases h5 : x.name = 0
            · rw [h5] at z2
              have HZ := Lib.hid (show shapeB k.G k.W x = plcB k.G x.plc by rw [HS2.out, decide_eq_true h4, decide_eq_true h5]; rfl)
              have h4' := Lib.hid h4
              have h5' := Lib.hid h5
              have FF := Lib.hid F
              have X := Lib.hid (show plcB k.G x.plc = placeB k.G.rules x.plc.rule x.plc.conj x.plc.pos from rfl)
              clear hk h4 h5
              go_enter Try.func25, Try.ntmps25
              go_wp2_with fail
              go_quiet (fail)
              go_wp2_with fail
              have hbd := pw_below_drewN (below_refl w) nq
              generalize w.drewN nq = w0 at hbd ⊢
              have H2 := Lib.hid (H.out.mono hbd)
              have HN2 := HN.out.mono hbd
              have p0 := Lib.hid H2.out.p0
              have z1 := Lib.hid (show w0.cell? ⟨na.block, na.off + 1, none⟩ = some (.int .i64 1) by rw [HN2.c1, h4'.out])
              have z2 := Lib.hid (show w0.cell? ⟨na.block, na.off + 2, none⟩ = some (.int .i64 0) by rw [HN2.c2, h5'.out])
              have z3 := Lib.hid HN2.c3
              have z4 := Lib.hid HN2.c4
              have z5 := Lib.hid HN2.c5
              have HB := Lib.hid hbd
              clear HN2 hbd
              refine wp_region_below (by kernel_rfl) (by kernel_rfl) ?_
              repeat (first
                | (refine qv_skip (by rfl) ?_; simp only [Act.put, List.setIfInBounds_toArray, List.set_cons_zero, List.set_cons_succ])
                | (refine qv_val' (by rfl) ?_; apply Exists.intro; refine ⟨fun w5 hC => ?_, ?_⟩; (have qqr0 := below_cell hC p0.out; have qqr1 := below_cell hC z1.out; have qqr2 := below_cell hC z2.out; have qqr3 := below_cell hC z3.out; have qqr4 := below_cell hC z4.out; have qqr5 := below_cell hC z5.out; go_simp; rfl); simp only [Act.put, List.setIfInBounds_toArray, List.set_cons_zero, List.set_cons_succ])
                | (refine qv_call' (by rfl) ?_; apply Exists.intro; apply Exists.intro; apply Exists.intro; refine ⟨fun w5 hC => ?_, fun w5 hC => ?_, ?_⟩; (go_simp; first | rfl | exact ⟨rfl, rfl⟩); (first | (go_at_call 41; exact calls_in hC (sIs_any (below_cell hC H2.out.g2) (H2.out.rul.mono hC) FF.out.may.rules FF.out.conj8 FF.out.may.seq x.plc.rule x.plc.conj x.plc.pos))); simp only [Act.put, List.setIfInBounds_toArray, List.set_cons_zero, List.set_cons_succ]))
              refine qv_nil ?_
              intro w5 hC
              have HB5 := Lib.hid (below_trans HB.out hC)
              clear hC
              go_wp2_with fail
              go_ret
              exact ⟨by rw [HZ.out]; rfl, HB5.out⟩
            · have d5 : (x.name == 0) = false := by simpa using h5
              have HZ := Lib.hid (show shapeB k.G k.W x = false by rw [HS2.out, decide_eq_false h5]; simp)
              clear hk h4 h5
              go_enter Try.func25, Try.ntmps25
              go_wp2_with fail
              go_quiet (fail)
              go_wp2_with fail
              go_quiet (fail)
              go_wp2_with fail
              go_ret
              exact ⟨by rw [HZ.out]; rfl, pw_below_drewN (pw_below_drewN (below_refl _) _) _⟩
          · have d4 : (x.kind == 1) = false := by simpa using h4
            have HZ := Lib.hid (show shapeB k.G k.W x = false by rw [HS2.out, decide_eq_false h4]; simp)
            clear hk h4
            go_enter Try.func25, Try.ntmps25
            go_wp2_with fail
            go_quiet (fail)
            go_wp2_with fail
            go_quiet (fail)
            go_wp2_with fail
            go_ret
            exact ⟨by rw [HZ.out]; rfl, pw_below_drewN (pw_below_drewN (below_refl _) _) _⟩
end Go.Proofs.Ytfmfoiecphhhiaa
