/-
  K9: templelaw11.MeanRanks answers true.
-/
import Derived.Test.YtmccdakmdcdbeaaK8
import Derived.Test.YtmccdakmdcdbeaaU1
set_option linter.unusedSimpArgs false
set_option linter.unusedVariables false
namespace Go.Proofs.Ytmccdakmdcdbeaa
open Go.RowKit

theorem rank_bound {w : World} {t : TS} {fin : Rk × Rk} (T : Tab w t fin) (k i j : Int) : 0 ≤ t.rank fin.1 k i j ∧ t.rank fin.1 k i j ≤ BIG := by
  have h := T.sol.inv.tot.1 k.toNat i j
  have hB := T.H.big
  unfold TS.rank
  split
  · exact ⟨h.1, by have := h.2; omega⟩
  · unfold BIG; omega

set_option maxRecDepth 100000 in
set_option maxHeartbeats 20000000 in
theorem ranks_any {w : World} (G : Gram) (W : ByteArray) {A A' : Option Addr} {c c' : Nat} (hWs : W.size < 9223372036854775807) (n1 : G.names.length ≤ c) (n2 : c ≤ 9223372036854775807) (n3 : Rd.str.C w A G.names) (n4 : G.rules.length ≤ c') (n5 : c' ≤ 9223372036854775807) (n6 : rulRd.C w A' G.rules) :
    Calls Try.prog 4 #[.agg #[.int .i64 G.start, .slice A G.names.length c, .slice A' G.rules.length c'], .string W] w
      fun e w' => e = .returned (.bool true) ∧ Below w.heap.size w w' := by
  have hb0 : Below w.heap.size w (w.alloc (Obj.cells #[Value.int .i64 G.start, Value.slice A G.names.length c, Value.slice A' G.rules.length c'] 25)) := below_alloc' (below_refl w) _
  have B0 := heap_alloc_new w (Obj.cells #[Value.int .i64 G.start, Value.slice A G.names.length c, Value.slice A' G.rules.length c'] 25)
  have N3 := Lib.hid (n3.mono hb0)
  have N6 := Lib.hid (n6.mono hb0)
  clear n3 n6
  go_enter Try.func4, Try.ntmps4
  go_wp2_with fail
  obtain ⟨bx, hbx⟩ : ∃ bx, bx = w.heap.size := ⟨_, rfl⟩
  rw [← hbx] at B0 ⊢
  generalize w.alloc (Obj.cells #[Value.int .i64 G.start, Value.slice A G.names.length c, Value.slice A' G.rules.length c'] 25) = w0 at hb0 B0 N3 N6 ⊢
  have HB0 := Lib.hid hb0
  have HX := Lib.hid B0
  clear hb0 B0 hbx
  go_wp2_with (first
    | (go_at_call 13; refine (awake_any _).mono ?_; rintro e w1 ⟨rfl, hb1⟩; have HB1 := Lib.hid hb1; have z0 : w1.cell? ⟨bx, 0, none⟩ = some (.int .i64 G.start) := blk_cell (blk_below HX.out hb1) 0; have z1 : w1.cell? ⟨bx, 1, none⟩ = some (.slice A G.names.length c) := blk_cell (blk_below HX.out hb1) 1; have z2 : w1.cell? ⟨bx, 2, none⟩ = some (.slice A' G.rules.length c') := blk_cell (blk_below HX.out hb1) 2; clear hb1)
    | fail)
  refine (new_whole G W n1 n2 (N3.out.mono HB1.out) n4 n5 (N6.out.mono HB1.out)).mono ?_
  rintro e w2 ⟨hb2, ⟨-, rfl⟩ | ⟨-, -, hW, t, fin, hL, tG, tW, rfl, hS, hR, hSol⟩⟩
  · have HB2 := Lib.hid hb2
    clear hb2 z0 z1 z2
    go_wp2_with (first
      | (go_at_call 15; refine (num_any _ _).mono ?_; rintro e w' ⟨rfl, rfl⟩)
      | fail)
    go_ret
    exact ⟨rfl, below_trans HB0.out (below_trans HB1.out HB2.out)⟩
  · have T2 := Lib.hid (show Tab w2 t fin from ⟨hL, hS, hR, hSol⟩)
    subst tG
    subst tW
    have HB2 := Lib.hid (below_trans HB1.out hb2)
    have hK : t.K ≤ 64 := hL.F.K64
    unfold TS.K at hK
    clear hb2 z0 z1 z2 HB1 hL hS hR hSol
    have bX := Lib.hid (blk_below HX.out HB2.out)
    have N62 := Lib.hid (N6.out.mono HB2.out)
    clear N6 HX
    go_wp2_with (first
      | (go_at_call 15; refine (num_any _ _).mono ?_; rintro e w2 ⟨rfl, rfl⟩)
      | fail)
    go_loopw [7] (fun cnt wr => NumRel w2 (t.W.size + 1) cnt wr) (fun cnt _ => t.W.size + 1 - (intOf cnt).toNat)
    case atStart => exact ⟨0, rfl, Nat.zero_le _, below_refl _⟩
    case round =>
      obtain ⟨i, rfl, hi, hb⟩ := hrel
      have HB := Lib.hid hb
      clear hb
      by_cases hlt : i ≤ t.W.size
      · go_wp2_with fail
        go_loopw [8] (fun cnt wr' => TillRel w2 i t.W.size cnt wr') (fun cnt _ => t.W.size + 1 - (intOf cnt).toNat)
        case atStart => exact ⟨i, rfl, Nat.le_refl _, by omega, HB.out⟩
        case round =>
          clear HB
          obtain ⟨j, rfl, hij, hj, hb⟩ := hrel
          have HB := Lib.hid hb
          clear hb
          by_cases hltj : j ≤ t.W.size
          · go_wp2_with fail
            go_loopw [9] (fun cnt wr' => NumRel w2 t.G.names.length cnt wr') (fun cnt _ => t.G.names.length - (intOf cnt).toNat)
            case atStart => exact ⟨0, rfl, Nat.zero_le _, HB.out⟩
            case round =>
              clear HB
              obtain ⟨k, rfl, hk, hb⟩ := hrel
              have HB := Lib.hid hb
              have k0 : wr.cell? ⟨bx, 0, none⟩ = some (.int .i64 t.G.start) := blk_cell (blk_below bX.out hb) 0
              have k1 : wr.cell? ⟨bx, 1, none⟩ = some (.slice A t.G.names.length c) := blk_cell (blk_below bX.out hb) 1
              have k2 : wr.cell? ⟨bx, 2, none⟩ = some (.slice A' t.G.rules.length c') := blk_cell (blk_below bX.out hb) 2
              have T3 := Lib.hid (T2.out.below hb)
              have N3' := Lib.hid (N62.out.mono hb)
              clear hb
              by_cases hltk : k < t.G.names.length
              · obtain ⟨R, hR⟩ : ∃ R, t.rank fin.1 k i j = R := ⟨_, rfl⟩
                obtain ⟨L, hL⟩ : ∃ L, leastTo t fin.2 t.G k i j t.G.rules.length = L := ⟨_, rfl⟩
                have hb9 := rank_bound T2.out k i j
                unfold BIG at hb9
                have c1 : ∀ w5, Below wr.heap.size wr w5 → Calls Try.prog 16 #[.pointer (some ⟨t.p, 0, none⟩), .int .i64 k, .int .i64 i, .int .i64 j] w5 fun e w' => e = .returned (.bool (decide (0 < R))) ∧ Below w5.heap.size w5 w' := fun w5 hC => by
                  have T := T3.out.below hC
                  rw [← hR]
                  exact has_any T.st T.H.F T.rw _ _ _
                have c2 : ∀ w5, Below wr.heap.size wr w5 → Calls Try.prog 19 #[.pointer (some ⟨t.p, 0, none⟩), .int .i64 k, .int .i64 i, .int .i64 j] w5 fun e w' => e = .returned (.int .i64 R) ∧ Below w5.heap.size w5 w' := fun w5 hC => by
                  have T := T3.out.below hC
                  rw [← hR]
                  exact rank_any T.st T.H.F T.rw _ _ _
                have c3 : ∀ w5, Below wr.heap.size wr w5 → Calls Try.prog 20 #[.agg #[.int .i64 t.G.start, .slice A t.G.names.length c, .slice A' t.G.rules.length c'], .pointer (some ⟨t.p, 0, none⟩), .int .i64 k, .int .i64 i, .int .i64 j] w5 fun e w' => e = .returned (.int .i64 L) ∧ Below w5.heap.size w5 w' := fun w5 hC => by
                  have T := T3.out.below hC
                  rw [← hL]
                  exact least_any t.G T T.H.F.rules (fun r x h => (T.H.F.conj r x h).2) (N3'.out.mono hC) _ _ _
                by_cases hp : 0 < R
                · have hrl := rank_least T2.out (k := k) hltk (i := i) (j := j) (by omega) (by omega) (by omega) (by rw [hR]; exact hp)
                  rw [hR, hL] at hrl
                  have e1 : IntKind.i64.wrap (1 + L) = R := by rw [← hrl]; exact IntWalk.i64_in _ (by omega)
                  have d1 : decide (0 < R) = true := by simpa using hp
                  rw [d1] at c1
                  have C1 := Lib.hid c1
                  have C2 := Lib.hid c2
                  have C3 := Lib.hid c3
                  clear c1 c2 c3
                  clear hR hL hrl hb9
                  go_wp2_with fail
                  have K0 := Lib.hid k0
                  have K1 := Lib.hid k1
                  have K2 := Lib.hid k2
                  clear k0 k1 k2
                  refine wp_region_below (by kernel_rfl) (by kernel_rfl) ?_
                  repeat (first
                    | (refine qv_skip (by rfl) ?_; simp only [Act.put, List.setIfInBounds_toArray, List.set_cons_zero, List.set_cons_succ])
                    | (refine qv_val' (by rfl) ?_; apply Exists.intro; refine ⟨fun w5 hC => ?_, ?_⟩; (have q0 := below_cell hC K0.out; have q1 := below_cell hC K1.out; have q2 := below_cell hC K2.out; go_simp; rfl); simp only [Act.put, List.setIfInBounds_toArray, List.set_cons_zero, List.set_cons_succ])
                    | (refine qv_call' (by rfl) ?_; apply Exists.intro; apply Exists.intro; apply Exists.intro; refine ⟨fun w5 hC => ?_, fun w5 hC => ?_, ?_⟩; (go_simp; first | rfl | exact ⟨rfl, rfl⟩); (first | (go_at_call 16; exact calls_in hC (C1.out w5 hC)) | (go_at_call 19; exact calls_in hC (C2.out w5 hC)) | (go_at_call 20; exact calls_in hC (C3.out w5 hC))); simp only [Act.put, List.setIfInBounds_toArray, List.set_cons_zero, List.set_cons_succ]))
                  refine qv_nil ?_
                  intro w5 hC
                  have HB5 := Lib.hid (below_trans HB.out hC)
                  clear hC
                  go_wp2_with fail
                  go_roundw
                  case rel => exact ⟨k + 1, by go_num, by omega, HB5.out⟩
                  case measure => simp [intOf]; omega
                · have d1 : decide (0 < R) = false := by simpa using hp
                  rw [d1] at c1
                  have C1 := Lib.hid c1
                  have C2 := Lib.hid c2
                  have C3 := Lib.hid c3
                  clear c1 c2 c3 hp
                  clear hR hL hb9
                  go_wp2_with fail
                  have K0 := Lib.hid k0
                  have K1 := Lib.hid k1
                  have K2 := Lib.hid k2
                  clear k0 k1 k2
                  refine wp_region_below (by kernel_rfl) (by kernel_rfl) ?_
                  repeat (first
                    | (refine qv_skip (by rfl) ?_; simp only [Act.put, List.setIfInBounds_toArray, List.set_cons_zero, List.set_cons_succ])
                    | (refine qv_val' (by rfl) ?_; apply Exists.intro; refine ⟨fun w5 hC => ?_, ?_⟩; (have q0 := below_cell hC K0.out; have q1 := below_cell hC K1.out; have q2 := below_cell hC K2.out; go_simp; rfl); simp only [Act.put, List.setIfInBounds_toArray, List.set_cons_zero, List.set_cons_succ])
                    | (refine qv_call' (by rfl) ?_; apply Exists.intro; apply Exists.intro; apply Exists.intro; refine ⟨fun w5 hC => ?_, fun w5 hC => ?_, ?_⟩; (go_simp; first | rfl | exact ⟨rfl, rfl⟩); (first | (go_at_call 16; exact calls_in hC (C1.out w5 hC)) | (go_at_call 19; exact calls_in hC (C2.out w5 hC)) | (go_at_call 20; exact calls_in hC (C3.out w5 hC))); simp only [Act.put, List.setIfInBounds_toArray, List.set_cons_zero, List.set_cons_succ]))
                  refine qv_nil ?_
                  intro w5 hC
                  have HB5 := Lib.hid (below_trans HB.out hC)
                  clear hC
                  go_wp2_with fail
                  go_roundw
                  case rel => exact ⟨k + 1, by go_num, by omega, HB5.out⟩
                  case measure => simp [intOf]; omega
              · have hke : k = t.G.names.length := by omega
                subst hke
                clear k0 k2 T3 N3'
                go_wp2_with fail
                go_roundw
                case rel => exact ⟨j + 1, by go_num, by omega, by omega, HB.out⟩
                case measure => simp [intOf]; omega
          · have hje : j = t.W.size + 1 := by omega
            subst hje
            go_wp2_with fail
            go_roundw
            case rel => exact ⟨i + 1, by go_num, by omega, HB.out⟩
            case measure => simp [intOf]; omega
      · have hie : i = t.W.size + 1 := by omega
        subst hie
        go_wp2_with fail
        go_ret
        exact ⟨rfl, below_trans HB0.out (below_trans HB2.out HB.out)⟩
end Go.Proofs.Ytmccdakmdcdbeaa
