/-
  Q2: templelaw11.MeanStretches answers true.
-/
import Derived.Test.YtmccdakmdcdbeaaQ1
set_option linter.unusedSimpArgs false
set_option linter.unusedVariables false
namespace Go.Proofs.Ytmccdakmdcdbeaa
open Go.RowKit

def TillRel (w : World) (i n : Nat) (cnt : Value) (wr : World) : Prop :=
  ∃ k : Nat, cnt = .int .i64 k ∧ i ≤ k ∧ k ≤ n + 1 ∧ Below w.heap.size w wr
def ToRel (w : World) (n : Nat) (cnt : Value) (wr : World) : Prop :=
  ∃ k : Nat, cnt = .int .i64 k ∧ k ≤ n ∧ Below w.heap.size w wr

set_option maxRecDepth 100000 in
set_option maxHeartbeats 4000000 in
theorem stretches_any {w : World} (G : Gram) (W B C : ByteArray) {A A' : Option Addr} {c c' : Nat} (hWs : W.size < 140737488351233) (hBs : B.size < 140737488351233) (hCs : C.size < 140737488351233) (n1 : G.names.length ≤ c) (n2 : c ≤ 9223372036854775807) (n3 : Rd.str.C w A G.names) (n4 : G.rules.length ≤ c') (n5 : c' ≤ 9223372036854775807) (n6 : rulRd.C w A' G.rules) :
    Calls Try.prog 10 #[.agg #[.int .i64 G.start, .slice A G.names.length c, .slice A' G.rules.length c'], .string W, .string B, .string C] w
      fun e w' => e = .returned (.bool true) ∧ Below w.heap.size w w' := by
  have hb0 : Below w.heap.size w (w.alloc (Obj.cells #[Value.int .i64 G.start, Value.slice A G.names.length c, Value.slice A' G.rules.length c'] 25)) := below_alloc' (below_refl w) _
  have B0 := heap_alloc_new w (Obj.cells #[Value.int .i64 G.start, Value.slice A G.names.length c, Value.slice A' G.rules.length c'] 25)
  have N3 := Lib.hid (n3.mono hb0)
  have N6 := Lib.hid (n6.mono hb0)
  clear n3 n6
  go_enter Try.func10, Try.ntmps10
  go_wp2_with fail
  obtain ⟨bx, hbx⟩ : ∃ bx, bx = w.heap.size := ⟨_, rfl⟩
  rw [← hbx] at B0 ⊢
  generalize w.alloc (Obj.cells #[Value.int .i64 G.start, Value.slice A G.names.length c, Value.slice A' G.rules.length c'] 25) = w0 at hb0 B0 N3 N6 ⊢
  have HB0 := Lib.hid hb0
  have HX := Lib.hid B0
  clear hb0 B0 hbx
  by_cases hlen : 12 < W.size + B.size + C.size
  · have e1 : IntKind.i64.wrap ((W.size : Int) + (B.size : Int)) = (W.size : Int) + B.size := IntWalk.i64_in _ (by omega)
    have e2 : IntKind.i64.wrap ((W.size : Int) + (B.size : Int) + (C.size : Int)) = (W.size : Int) + B.size + C.size := IntWalk.i64_in _ (by omega)
    have d1 : decide ((12 : Int) < (W.size : Int) + B.size + C.size) = true := by simp; omega
    go_wp2_with (first
      | (go_at_call 13; refine (awake_any _).mono ?_; rintro e w1 ⟨rfl, hb1⟩; have HB1 := Lib.hid hb1; clear hb1)
      | fail)
    go_ret
    exact ⟨rfl, below_trans HB0.out HB1.out⟩
  · have e1 : IntKind.i64.wrap ((W.size : Int) + (B.size : Int)) = (W.size : Int) + B.size := IntWalk.i64_in _ (by omega)
    have e2 : IntKind.i64.wrap ((W.size : Int) + (B.size : Int) + (C.size : Int)) = (W.size : Int) + B.size + C.size := IntWalk.i64_in _ (by omega)
    have d1 : decide ((12 : Int) < (W.size : Int) + B.size + C.size) = false := by simp; omega
    go_wp2_with (first
      | (go_at_call 13; refine (awake_any _).mono ?_; rintro e w1 ⟨rfl, hb1⟩; have HB1 := Lib.hid hb1; have z0 : w1.cell? ⟨bx, 0, none⟩ = some (.int .i64 G.start) := blk_cell (blk_below HX.out hb1) 0; have z1 : w1.cell? ⟨bx, 1, none⟩ = some (.slice A G.names.length c) := blk_cell (blk_below HX.out hb1) 1; have z2 : w1.cell? ⟨bx, 2, none⟩ = some (.slice A' G.rules.length c') := blk_cell (blk_below HX.out hb1) 2; clear hb1)
      | fail)
    clear e1 e2 d1
    refine (new_whole G W n1 n2 (N3.out.mono HB1.out) n4 n5 (N6.out.mono HB1.out)).mono ?_
    rintro e w2 ⟨hb2, ⟨href, rfl⟩ | ⟨hmay, hcyc, hW, t, fin, hL, tG, tW, rfl, hS, hR, hSol⟩⟩
    · have HB2 := Lib.hid (below_trans HB1.out hb2)
      have z0 : w2.cell? ⟨bx, 0, none⟩ = some (.int .i64 G.start) := below_cell hb2 z0
      have z1 : w2.cell? ⟨bx, 1, none⟩ = some (.slice A G.names.length c) := below_cell hb2 z1
      have z2 : w2.cell? ⟨bx, 2, none⟩ = some (.slice A' G.rules.length c') := below_cell hb2 z2
      have HREF := Lib.hid href
      clear hb2 href
      go_wp2_with fail
      refine (new_whole G (B ++ W ++ C) n1 n2 (N3.out.mono HB2.out) n4 n5 (N6.out.mono HB2.out)).mono ?_
      rintro e w3 ⟨hb3, ⟨-, rfl⟩ | ⟨hmay, hcyc, -, -⟩⟩
      · have HB3 := Lib.hid hb3
        clear hb3 z0 z1 z2
        go_wp2_with (first
          | (go_at_call 15; refine (num_any _ _).mono ?_; rintro e w3 ⟨rfl, rfl⟩)
          | fail)
        go_ret
        exact ⟨rfl, below_trans HB0.out (below_trans HB2.out HB3.out)⟩
      · exfalso
        rcases HREF.out with h | h
        · exact refG_no h hmay hcyc
        · omega
    · have T2 := Lib.hid (show Tab w2 t fin from ⟨hL, hS, hR, hSol⟩)
      have TG := Lib.hid tG
      have TW := Lib.hid tW
      have MAY := Lib.hid hmay
      have CYC := Lib.hid hcyc
      have HB2 := Lib.hid (below_trans HB1.out hb2)
      have hK : t.K ≤ 64 := hL.F.K64
      have hK1 : t.K = G.names.length := by unfold TS.K; rw [tG]
      rw [hK1] at hK
      have z0 : w2.cell? ⟨bx, 0, none⟩ = some (.int .i64 G.start) := below_cell hb2 z0
      have z1 : w2.cell? ⟨bx, 1, none⟩ = some (.slice A G.names.length c) := below_cell hb2 z1
      have z2 : w2.cell? ⟨bx, 2, none⟩ = some (.slice A' G.rules.length c') := below_cell hb2 z2
      clear hb2 hL hS hR hSol tG tW hmay hcyc hK1
      go_wp2_with fail
      refine (new_whole G (B ++ W ++ C) n1 n2 (N3.out.mono HB2.out) n4 n5 (N6.out.mono HB2.out)).mono ?_
      rintro e w3 ⟨hb3, ⟨href, -⟩ | ⟨-, -, -, u, fin', hL, uG, uW, rfl, hS, hR, hSol⟩⟩
      · exfalso
        rcases href with h | h
        · exact refG_no h MAY.out CYC.out
        · rw [ByteArray.size_append, ByteArray.size_append] at h
          omega
      · have U3 := Lib.hid (show Tab w3 u fin' from ⟨hL, hS, hR, hSol⟩)
        have T3 := Lib.hid (T2.out.below hb3)
        have UG := Lib.hid uG
        have UW := Lib.hid uW
        have HB3 := Lib.hid (below_trans HB2.out hb3)
        have bX := Lib.hid (blk_below HX.out HB3.out)
        have huK : u.K = t.K := by unfold TS.K; rw [uG, TG.out]
        have HUK := Lib.hid huK
        have HTK := Lib.hid (show t.K = G.names.length by unfold TS.K; rw [TG.out])
        have EQ := Lib.hid (stretch_eq T3.out U3.out (by rw [uG, TG.out]) (a := 0) (b := 0) (Int.le_refl _) (by omega) (by omega) (fun i a b => by omega))
        clear EQ
        have EQ := Lib.hid (stretch_eq U3.out T3.out (by rw [uG, TG.out]) (a := B.size) (b := W.size) (by omega) (by rw [uW, ByteArray.size_append, ByteArray.size_append]; omega) (by rw [TW.out]; exact Int.le_refl _) (fun i a b => by rw [uW, TW.out]; exact btz_app B W C i a b))
        clear hb3 hL hS hR hSol uG uW z0 z1 z2 huK
        go_wp2_with (first
          | (go_at_call 15; refine (num_any _ _).mono ?_; rintro e w3 ⟨rfl, rfl⟩)
          | fail)
        go_loopw [14] (fun cnt wr => ToRel w3 (W.size + 1) cnt wr) (fun cnt _ => W.size + 1 - (intOf cnt).toNat)
        case atStart => exact ⟨0, rfl, Nat.zero_le _, below_refl _⟩
        case round =>
          obtain ⟨i, rfl, hi, hb⟩ := hrel
          have HB := Lib.hid hb
          clear hb
          by_cases hlt : i ≤ W.size
          · go_wp2_with fail
            go_loopw [15] (fun cnt wr' => TillRel w3 i W.size cnt wr') (fun cnt _ => W.size + 1 - (intOf cnt).toNat)
            case atStart => exact ⟨i, rfl, Nat.le_refl _, by omega, HB.out⟩
            case round =>
              clear HB
              obtain ⟨j, rfl, hij, hj, hb⟩ := hrel
              have HB := Lib.hid hb
              clear hb
              by_cases hltj : j ≤ W.size
              · go_wp2_with fail
                go_loopw [16] (fun cnt wr' => ToRel w3 G.names.length cnt wr') (fun cnt _ => G.names.length - (intOf cnt).toNat)
                case atStart => exact ⟨0, rfl, Nat.zero_le _, HB.out⟩
                case round =>
                  clear HB
                  obtain ⟨k, rfl, hk, hb⟩ := hrel
                  have HB := Lib.hid hb
                  have z1 : wr.cell? ⟨bx, 1, none⟩ = some (.slice A G.names.length c) := blk_cell (blk_below bX.out hb) 1
                  have T4 := Lib.hid (T3.out.below hb)
                  have U4 := Lib.hid (U3.out.below hb)
                  clear hb
                  by_cases hltk : k < G.names.length
                  · have e1 : IntKind.i64.wrap ((B.size : Int) + (i : Int)) = (i : Int) + B.size := by rw [IntWalk.i64_in _ (by omega)]; omega
                    have e2 : IntKind.i64.wrap ((B.size : Int) + (j : Int)) = (j : Int) + B.size := by rw [IntWalk.i64_in _ (by omega)]; omega
                    obtain ⟨R, hR⟩ : ∃ R, t.rank fin.1 k i j = R := ⟨_, rfl⟩
                    have hR' : u.rank fin'.1 k ((i : Int) + B.size) ((j : Int) + B.size) = R := by
                      rw [rank_in (by rw [HUK.out, HTK.out]; exact hltk) (by omega) (by omega) (by rw [UW.out, ByteArray.size_append, ByteArray.size_append]; omega), EQ.out k i j (by rw [HUK.out, HTK.out]; exact hltk) (by omega) (by omega) (by omega), ← hR, rank_in (by rw [HTK.out]; exact hltk) (by omega) (by omega) (by rw [TW.out]; omega)]
                    have HRT := Lib.hid hR
                    have HRU := Lib.hid hR'
                    have d1 : (decide (0 < R) != decide (0 < R)) = false := by simp
                    clear hR hR'
                    go_wp2_with (first
                      | (go_at_call_of 16 (t.p); refine Calls.mono (has_any (t := t) (NM := fin.1) (PL := fin.2) (by exact (show Hid (Tab _ t fin) by assumption).out.st) T3.out.H.F (by exact (show Hid (Tab _ t fin) by assumption).out.rw) _ _ _) ?_; rintro e w5 ⟨rfl, hb5⟩; have T5 := Lib.hid ((show Hid (Tab _ t fin) by assumption).out.below hb5); have U5 := Lib.hid ((show Hid (Tab _ u fin') by assumption).out.below hb5); have HB5 := Lib.hid (below_trans (show Hid (Below w3.heap.size w3 _) by assumption).out hb5); clear hb5; rw [HRT.out])
                      | (go_at_call_of 16 (u.p); refine Calls.mono (has_any (t := u) (NM := fin'.1) (PL := fin'.2) (by exact (show Hid (Tab _ u fin') by assumption).out.st) U3.out.H.F (by exact (show Hid (Tab _ u fin') by assumption).out.rw) _ _ _) ?_; rintro e w5 ⟨rfl, hb5⟩; have T5 := Lib.hid ((show Hid (Tab _ t fin) by assumption).out.below hb5); have U5 := Lib.hid ((show Hid (Tab _ u fin') by assumption).out.below hb5); have HB5 := Lib.hid (below_trans (show Hid (Below w3.heap.size w3 _) by assumption).out hb5); clear hb5; rw [HRU.out])
                      | (go_at_call_of 19 (t.p); refine Calls.mono (rank_any (t := t) (NM := fin.1) (PL := fin.2) (by exact (show Hid (Tab _ t fin) by assumption).out.st) T3.out.H.F (by exact (show Hid (Tab _ t fin) by assumption).out.rw) _ _ _) ?_; rintro e w5 ⟨rfl, hb5⟩; have T5 := Lib.hid ((show Hid (Tab _ t fin) by assumption).out.below hb5); have U5 := Lib.hid ((show Hid (Tab _ u fin') by assumption).out.below hb5); have HB5 := Lib.hid (below_trans (show Hid (Below w3.heap.size w3 _) by assumption).out hb5); clear hb5; rw [HRT.out])
                      | (go_at_call_of 19 (u.p); refine Calls.mono (rank_any (t := u) (NM := fin'.1) (PL := fin'.2) (by exact (show Hid (Tab _ u fin') by assumption).out.st) U3.out.H.F (by exact (show Hid (Tab _ u fin') by assumption).out.rw) _ _ _) ?_; rintro e w5 ⟨rfl, hb5⟩; have T5 := Lib.hid ((show Hid (Tab _ t fin) by assumption).out.below hb5); have U5 := Lib.hid ((show Hid (Tab _ u fin') by assumption).out.below hb5); have HB5 := Lib.hid (below_trans (show Hid (Below w3.heap.size w3 _) by assumption).out hb5); clear hb5; rw [HRU.out])
                      | fail)
                    go_roundw
                    case rel => exact ⟨k + 1, by go_num, by omega, (show Hid (Below w3.heap.size w3 _) by assumption).out⟩
                    case measure => simp [intOf]; omega
                  · have hke : k = G.names.length := by omega
                    subst hke
                    go_wp2_with fail
                    go_roundw
                    case rel => exact ⟨j + 1, by go_num, by omega, by omega, HB.out⟩
                    case measure => simp [intOf]; omega
              · have hje : j = W.size + 1 := by omega
                subst hje
                go_wp2_with fail
                go_roundw
                case rel => exact ⟨i + 1, by go_num, by omega, HB.out⟩
                case measure => simp [intOf]; omega
          · have hie : i = W.size + 1 := by omega
            subst hie
            go_wp2_with fail
            go_ret
            exact ⟨rfl, below_trans HB0.out (below_trans HB3.out HB.out)⟩
end Go.Proofs.Ytmccdakmdcdbeaa
