/-
  K6: templelaw11.MeanHolds answers true.
-/
import Derived.Test.YtmccdakmdcdbeaaK5
set_option linter.unusedSimpArgs false
set_option linter.unusedVariables false
namespace Go.Proofs.Ytmccdakmdcdbeaa
open Go.RowKit

def TillRel (w : World) (i n : Nat) (cnt : Value) (wr : World) : Prop :=
  ∃ k : Nat, cnt = .int .i64 k ∧ i ≤ k ∧ k ≤ n + 1 ∧ Below w.heap.size w wr

set_option maxRecDepth 100000 in
set_option maxHeartbeats 4000000 in
theorem holds_any {w : World} (G : Gram) (W : ByteArray) {A A' : Option Addr} {c c' : Nat} (hWs : W.size < 9223372036854775807) (n1 : G.names.length ≤ c) (n2 : c ≤ 9223372036854775807) (n3 : Rd.str.C w A G.names) (n4 : G.rules.length ≤ c') (n5 : c' ≤ 9223372036854775807) (n6 : rulRd.C w A' G.rules) :
    Calls Try.prog 3 #[.agg #[.int .i64 G.start, .slice A G.names.length c, .slice A' G.rules.length c'], .string W] w
      fun e w' => e = .returned (.bool true) ∧ Below w.heap.size w w' := by
  have hb0 : Below w.heap.size w (w.alloc (Obj.cells #[Value.int .i64 G.start, Value.slice A G.names.length c, Value.slice A' G.rules.length c'] 25)) := below_alloc' (below_refl w) _
  have B0 := heap_alloc_new w (Obj.cells #[Value.int .i64 G.start, Value.slice A G.names.length c, Value.slice A' G.rules.length c'] 25)
  have N3 := Lib.hid (n3.mono hb0)
  have N6 := Lib.hid (n6.mono hb0)
  clear n3 n6
  go_enter Try.func3, Try.ntmps3
  go_wp2_with fail
  obtain ⟨bx, hbx⟩ : ∃ bx, bx = w.heap.size := ⟨_, rfl⟩
  rw [← hbx] at B0 ⊢
  generalize w.alloc (Obj.cells #[Value.int .i64 G.start, Value.slice A G.names.length c, Value.slice A' G.rules.length c'] 25) = w0 at hb0 B0 N3 N6 ⊢
  have HB0 := Lib.hid hb0
  have HX := Lib.hid B0
  clear hb0 B0 hbx
  go_wp2_with (first
    | (go_at_call 13; refine (awake_any _).mono ?_; rintro e w1 ⟨rfl, hb1⟩; have HB1 := Lib.hid hb1; have z0 : w1.cell? ⟨bx, 0, none⟩ = some (.int .i64 G.start) := blk_cell (blk_below HX.out hb1) 0; have z1 : w1.cell? ⟨bx, 1, none⟩ = some (.slice A G.names.length c) := blk_cell (blk_below HX.out hb1) 1; have z2 : w1.cell? ⟨bx, 2, none⟩ = some (.slice A' G.rules.length c') := blk_cell (blk_below HX.out hb1) 2; clear hb1)
    | fail)
  refine (new_whole G W n1 n2 (N3.out.mono HB1.out) n4 n5 (N6.out.mono HB1.out)).mono ?_
  rintro e w2 ⟨hb2, ⟨-, rfl⟩ | ⟨-, -, hW, t, fin, hL, tG, tW, rfl, hS, hR, hSol⟩⟩
  · have HB2 := Lib.hid hb2
    clear hb2 z0 z1 z2
    go_wp2_with (first
      | (go_at_call 15; refine (num_any _ _).mono ?_; rintro e w' ⟨rfl, rfl⟩)
      | fail)
    go_ret
    exact ⟨rfl, below_trans HB0.out (below_trans HB1.out HB2.out)⟩
  · have T2 := Lib.hid (show Tab w2 t fin from ⟨hL, hS, hR, hSol⟩)
    subst tG
    subst tW
    have HB2 := Lib.hid (below_trans HB1.out hb2)
    have hK : t.K ≤ 64 := hL.F.K64
    unfold TS.K at hK
    clear hb2 z0 z1 z2 HB1 hL hS hR hSol
    have bX := Lib.hid (blk_below HX.out HB2.out)
    have N62 := Lib.hid (N6.out.mono HB2.out)
    clear N6 HX
    go_wp2_with (first
      | (go_at_call 15; refine (num_any _ _).mono ?_; rintro e w2 ⟨rfl, rfl⟩)
      | fail)
    go_loopw [7] (fun cnt wr => NumRel w2 (t.W.size + 1) cnt wr) (fun cnt _ => t.W.size + 1 - (intOf cnt).toNat)
    case atStart => exact ⟨0, rfl, Nat.zero_le _, below_refl _⟩
    case round =>
      obtain ⟨i, rfl, hi, hb⟩ := hrel
      have HB := Lib.hid hb
      clear hb
      by_cases hlt : i ≤ t.W.size
      · go_wp2_with fail
        go_loopw [8] (fun cnt wr' => TillRel w2 i t.W.size cnt wr') (fun cnt _ => t.W.size + 1 - (intOf cnt).toNat)
        case atStart => exact ⟨i, rfl, Nat.le_refl _, by omega, HB.out⟩
        case round =>
          clear HB
          obtain ⟨j, rfl, hij, hj, hb⟩ := hrel
          have HB := Lib.hid hb
          clear hb
          by_cases hltj : j ≤ t.W.size
          · go_wp2_with fail
            go_loopw [9] (fun cnt wr' => NumRel w2 t.G.names.length cnt wr') (fun cnt _ => t.G.names.length - (intOf cnt).toNat)
            case atStart => exact ⟨0, rfl, Nat.zero_le _, HB.out⟩
            case round =>
              clear HB
              obtain ⟨k, rfl, hk, hb⟩ := hrel
              have HB := Lib.hid hb
              have k0 : wr.cell? ⟨bx, 0, none⟩ = some (.int .i64 t.G.start) := blk_cell (blk_below bX.out hb) 0
              have k1 : wr.cell? ⟨bx, 1, none⟩ = some (.slice A t.G.names.length c) := blk_cell (blk_below bX.out hb) 1
              have k2 : wr.cell? ⟨bx, 2, none⟩ = some (.slice A' t.G.rules.length c') := blk_cell (blk_below bX.out hb) 2
              have T3 := Lib.hid (T2.out.below hb)
              have N3' := Lib.hid (N62.out.mono hb)
              clear hb
              by_cases hltk : k < t.G.names.length
              · have HRU := Lib.hid (ruled_is T2.out (k := k) hltk (i := i) (j := j) (by omega) (by omega) (by omega))
                have d1 : (decide (0 < t.rank fin.1 k i j) != decide (0 < t.rank fin.1 k i j)) = false := by simp
                go_wp2_with fail
                go_region_held3 (fun w' => w'.cell? ⟨bx, 0, none⟩ = some (.int .i64 t.G.start) ∧ w'.cell? ⟨bx, 1, none⟩ = some (.slice A t.G.names.length c) ∧ w'.cell? ⟨bx, 2, none⟩ = some (.slice A' t.G.rules.length c')) (first | exact ⟨l0, l1, l2⟩ | exact ⟨m0, m1, m2⟩ | exact ⟨k0, k1, k2⟩)
                  (first
                    | (go_at_call 16; first
                        | (refine (has_any (w := wr.drew) (T3.out.below (below_drew' (below_refl _))).st T3.out.H.F (T3.out.below (below_drew' (below_refl _))).rw _ _ _).mono ?_; rintro e w5 ⟨rfl, hb5⟩; have m0 := below_cell (w := wr.drew) hb5 k0; have m1 := below_cell (w := wr.drew) hb5 k1; have m2 := below_cell (w := wr.drew) hb5 k2; have T5 := Lib.hid ((T3.out.below (below_drew' (below_refl _))).below hb5); have N5' := Lib.hid ((N3'.out.mono (below_drew' (below_refl _))).mono hb5); have HB5 := Lib.hid (below_trans (below_drew' HB.out) hb5); clear hb5)
                        | (refine (has_any T6.out.st T6.out.H.F T6.out.rw _ _ _).mono ?_; rintro e w5 ⟨rfl, hb5⟩; have m0 := below_cell hb5 l0; have m1 := below_cell hb5 l1; have m2 := below_cell hb5 l2; have HB5 := Lib.hid (below_trans HB6.out hb5); clear hb5))
                    | (go_at_call 17; first
                        | (refine (ruled_any (w := wr.drew) t.G (T3.out.below (below_drew' (below_refl _))) T3.out.H.F.rules (fun r x h => (T3.out.H.F.conj r x h).2) (N3'.out.mono (below_drew' (below_refl _))) _ _ _).mono ?_; rintro e w6 ⟨rfl, hb6⟩; have l0 := below_cell (w := wr.drew) hb6 k0; have l1 := below_cell (w := wr.drew) hb6 k1; have l2 := below_cell (w := wr.drew) hb6 k2; have T6 := Lib.hid ((T3.out.below (below_drew' (below_refl _))).below hb6); have HB6 := Lib.hid (below_trans (below_drew' HB.out) hb6); clear hb6; rw [HRU.out])
                        | (refine (ruled_any t.G T5.out T5.out.H.F.rules (fun r x h => (T5.out.H.F.conj r x h).2) N5'.out _ _ _).mono ?_; rintro e w6 ⟨rfl, hb6⟩; have l0 := below_cell hb6 m0; have l1 := below_cell hb6 m1; have l2 := below_cell hb6 m2; have HB6 := Lib.hid (below_trans HB5.out hb6); clear hb6; rw [HRU.out]))
                    | fail)
                all_goals
                  clear k0 k1 k2
                  go_wp2_with fail
                  go_roundw
                  case rel => first | exact ⟨k + 1, by go_num, by omega, HB6.out⟩ | exact ⟨k + 1, by go_num, by omega, HB5.out⟩
                  case measure => simp [intOf]; omega
              · have hke : k = t.G.names.length := by omega
                subst hke
                go_wp2_with (first
                  | (go_at_call 18; refine (parts_any T3.out N3'.out (by omega) (by omega) (by omega)).mono ?_; rintro e w5 ⟨rfl, hb5⟩; have HB5 := Lib.hid hb5; clear hb5)
                  | fail)
                go_roundw
                case rel => exact ⟨j + 1, by go_num, by omega, by omega, below_trans HB.out HB5.out⟩
                case measure => simp [intOf]; omega
          · have hje : j = t.W.size + 1 := by omega
            subst hje
            go_wp2_with fail
            go_roundw
            case rel => exact ⟨i + 1, by go_num, by omega, HB.out⟩
            case measure => simp [intOf]; omega
      · have hie : i = t.W.size + 1 := by omega
        subst hie
        go_wp2_with fail
        go_ret
        exact ⟨rfl, below_trans HB0.out (below_trans HB2.out HB.out)⟩
end Go.Proofs.Ytmccdakmdcdbeaa
