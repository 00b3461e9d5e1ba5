/-
  T3: templelaw11.MeanSpans answers true.
-/
import Derived.Test.YtmccdakmdcdbeaaT2
import Derived.Test.YtmccdakmdcdbeaaQ1
set_option linter.unusedSimpArgs false
set_option linter.unusedVariables false
namespace Go.Proofs.Ytmccdakmdcdbeaa
open Go.RowKit

theorem u64_wrap (x : Int) : IntKind.u64.wrap x = x % 18446744073709551616 := by first | rfl | simp [IntKind.wrap, IntKind.bits]
theorem umod_nat (x : Int) (n : Nat) : ∃ a : Nat, (IntKind.u64.wrap x).tmod ((n : Int) + 1) = a ∧ a ≤ n := by
  have h0 : 0 ≤ IntKind.u64.wrap x := by rw [u64_wrap]; omega
  have h1 := Int.tmod_nonneg ((n : Int) + 1) h0
  have h2 := Int.tmod_lt_of_pos (IntKind.u64.wrap x) (b := (n : Int) + 1) (by omega)
  exact ⟨((IntKind.u64.wrap x).tmod ((n : Int) + 1)).toNat, (Int.toNat_of_nonneg h1).symm, by omega⟩

theorem new_fine {w : World} {G : Gram} {W : ByteArray} {e : Ending} {w' : World} (hm : mayB G = true) (hc : ¬ NegCyc (edgesOf G)) (hW : W.size ≤ 32) (h : NewIs w G W e w') : Below w.heap.size w w' ∧ ∃ (t : TS) (fin : Rk × Rk), e = .returned (.tuple #[.pointer (some ⟨t.p, 0, none⟩), .int .i64 0]) ∧ t.G = G ∧ t.W = W ∧ Tab w' t fin := by
  obtain ⟨hb, ⟨h | h, -⟩ | ⟨-, -, -, t, fin, hL, tG, tW, he, hS, hR, hSol⟩⟩ := h
  · exact absurd h (fun h => refG_no h hm hc)
  · omega
  · exact ⟨hb, t, fin, he, tG, tW, hL, hS, hR, hSol⟩

set_option maxRecDepth 100000 in
set_option maxHeartbeats 4000000 in
theorem spans_any {w : World} (G : Gram) (W : ByteArray) {A A' : Option Addr} {c c' : Nat} (x y : Int) (hWs : W.size < 140737488351233) (n1 : G.names.length ≤ c) (n2 : c ≤ 9223372036854775807) (n3 : Rd.str.C w A G.names) (n4 : G.rules.length ≤ c') (n5 : c' ≤ 9223372036854775807) (n6 : rulRd.C w A' G.rules) :
    Calls Try.prog 5 #[.agg #[.int .i64 G.start, .slice A G.names.length c, .slice A' G.rules.length c'], .string W, .int .i64 x, .int .i64 y] w
      fun e w' => e = .returned (.bool true) ∧ Below w.heap.size w w' := by
  have hb0 : Below w.heap.size w (w.alloc (Obj.cells #[Value.int .i64 G.start, Value.slice A G.names.length c, Value.slice A' G.rules.length c'] 25)) := below_alloc' (below_refl w) _
  have B0 := heap_alloc_new w (Obj.cells #[Value.int .i64 G.start, Value.slice A G.names.length c, Value.slice A' G.rules.length c'] 25)
  have N3 := Lib.hid (n3.mono hb0)
  have N6 := Lib.hid (n6.mono hb0)
  clear n3 n6
  go_enter Try.func5, Try.ntmps5
  go_wp2_with fail
  obtain ⟨bx, hbx⟩ : ∃ bx, bx = w.heap.size := ⟨_, rfl⟩
  rw [← hbx] at B0 ⊢
  generalize w.alloc (Obj.cells #[Value.int .i64 G.start, Value.slice A G.names.length c, Value.slice A' G.rules.length c'] 25) = w0 at hb0 B0 N3 N6 ⊢
  have HB0 := Lib.hid hb0
  have HX := Lib.hid B0
  clear hb0 B0 hbx
  go_wp2_with (first
    | (go_at_call 13; refine (awake_any _).mono ?_; rintro e w1 ⟨rfl, hb1⟩; have HB1 := Lib.hid hb1; have z0 : w1.cell? ⟨bx, 0, none⟩ = some (.int .i64 G.start) := blk_cell (blk_below HX.out hb1) 0; have z1 : w1.cell? ⟨bx, 1, none⟩ = some (.slice A G.names.length c) := blk_cell (blk_below HX.out hb1) 1; have z2 : w1.cell? ⟨bx, 2, none⟩ = some (.slice A' G.rules.length c') := blk_cell (blk_below HX.out hb1) 2; clear hb1)
    | fail)
  refine (new_whole G W n1 n2 (N3.out.mono HB1.out) n4 n5 (N6.out.mono HB1.out)).mono ?_
  rintro e w2 ⟨hb2, ⟨-, rfl⟩ | ⟨hmay, hcyc, hW, t, fin, hL, tG, tW, rfl, hS, hR, hSol⟩⟩
  · have HB2 := Lib.hid hb2
    clear hb2 z0 z1 z2
    go_wp2_with (first
      | (go_at_call 15; refine (num_any _ _).mono ?_; rintro e w' ⟨rfl, rfl⟩)
      | fail)
    go_ret
    exact ⟨rfl, below_trans HB0.out (below_trans HB1.out HB2.out)⟩
  · have T2 := Lib.hid (show Tab w2 t fin from ⟨hL, hS, hR, hSol⟩)
    have TG := Lib.hid tG
    have TW := Lib.hid tW
    have MAY := Lib.hid hmay
    have CYC := Lib.hid hcyc
    have HB2 := Lib.hid (below_trans HB1.out hb2)
    have hK : t.K ≤ 64 := hL.F.K64
    have hK1 : t.K = G.names.length := by unfold TS.K; rw [tG]
    rw [hK1] at hK
    clear hb2 z0 z1 z2 HB1 hL hS hR hSol tG tW hmay hcyc hK1
    have bX := Lib.hid (blk_below HX.out HB2.out)
    have z0 : w2.cell? ⟨bx, 0, none⟩ = some (.int .i64 G.start) := blk_cell bX.out 0
    have z1 : w2.cell? ⟨bx, 1, none⟩ = some (.slice A G.names.length c) := blk_cell bX.out 1
    have z2 : w2.cell? ⟨bx, 2, none⟩ = some (.slice A' G.rules.length c') := blk_cell bX.out 2
    have N62 := Lib.hid (N6.out.mono HB2.out)
    have N32 := Lib.hid (N3.out.mono HB2.out)
    clear N6 N3 HX
    obtain ⟨a, ha, ha1⟩ := umod_nat x W.size
    have hda : (W.size : Int) - a + 1 = ((W.size - a : Nat) : Int) + 1 := by omega
    obtain ⟨m, hm, hm1⟩ := umod_nat y (W.size - a)
    rw [← hda] at hm
    have e1 : IntKind.u64.wrap ((W.size : Int) - a + 1) = (W.size : Int) - a + 1 := by rw [u64_wrap]; omega
    clear hda
    go_wp2_with (first
      | (go_at_call 15; refine (num_any _ _).mono ?_; rintro e w2 ⟨rfl, rfl⟩)
      | fail)
    have hcut := btz_cut W (a := a) (b := a + m) (by omega) (by omega)
    have HCUT := Lib.hid hcut
    have ND3 := Lib.hid (N32.out.mono (below_drew' (below_refl w2)))
    have ND6 := Lib.hid (N62.out.mono (below_drew' (below_refl w2)))
    have hsz : (W.extract a (a + m)).size ≤ 32 := by rw [hcut.1]; omega
    clear hcut
    have q1 : (0 : Int) ≤ (a : Int) := by omega
    have q2 : (a : Int) ≤ (a : Int) + m := by omega
    have q3 : (a : Int) + m ≤ (W.size : Int) := by omega
    go_region_held3 (fun w' => w'.cell? ⟨bx, 0, none⟩ = some (.int .i64 G.start) ∧ w'.cell? ⟨bx, 1, none⟩ = some (.slice A G.names.length c) ∧ w'.cell? ⟨bx, 2, none⟩ = some (.slice A' G.rules.length c')) (first | exact ⟨j0, j1, j2⟩ | exact ⟨z0, z1, z2⟩)
        (first
          | (go_at_call 14; refine (new_whole (w := w2.drew) G (W.extract a (a + m)) n1 n2 ND3.out n4 n5 ND6.out).mono ?_; intro e w3 hnew; obtain ⟨hb3, u, fin', rfl, uG, uW, hU⟩ := new_fine MAY.out CYC.out hsz hnew; have j0 := below_cell (w := w2.drew) hb3 z0; have j1 := below_cell (w := w2.drew) hb3 z1; have j2 := below_cell (w := w2.drew) hb3 z2; have U3 := Lib.hid hU; have UG := Lib.hid uG; have UW := Lib.hid uW; have HB3 := Lib.hid hb3; clear hnew hb3 hU uG uW)
          | fail)
    all_goals
      clear z0 z1 z2
      have T3 := Lib.hid (T2.out.below (below_then (below_drew' (below_refl w2)) HB3.out))
      have N33 := Lib.hid (ND3.out.mono HB3.out)
      have N63 := Lib.hid (ND6.out.mono HB3.out)
      have X3 := Lib.hid (blk_below bX.out (below_then (below_drew' (below_refl w2)) HB3.out))
      have HC3 := Lib.hid (below_trans HB2.out (below_then (below_drew' (below_refl w2)) HB3.out))
      go_wp2_with (first
        | (go_at_call 15; refine (num_any _ _).mono ?_; rintro e w3 ⟨rfl, rfl⟩)
        | (go_at_call 21; refine (rmay_any N33.out N63.out MAY.out).mono ?_; rintro e w4 ⟨rfl, hb4⟩; have HB4 := Lib.hid hb4; clear hb4)
        | fail)
      have T5 := Lib.hid (T3.out.below HB4.out)
      have U5 := Lib.hid (U3.out.below HB4.out)
      have X4 := Lib.hid (blk_below X3.out HB4.out)
      clear j0 j1 j2
      have HTK := Lib.hid (show t.K = G.names.length by unfold TS.K; rw [TG.out])
      have HUK := Lib.hid (show u.K = t.K by unfold TS.K; rw [TG.out, UG.out])
      have EQ := Lib.hid (stretch_eq T5.out U5.out (by rw [UG.out, TG.out]) (a := a) (b := m) (by omega) (by rw [TW.out]; omega) (by rw [UW.out, HCUT.out.1]; omega) (fun i i0 i1 => by rw [TW.out, UW.out]; exact HCUT.out.2 i i0 (by omega)))
      go_loopw [15] (fun cnt wr => UpTo w4 G.names.length cnt wr) (fun cnt _ => G.names.length - (intOf cnt).toNat)
      case atStart => exact ⟨0, rfl, Nat.zero_le _, below_refl _⟩
      case round =>
        obtain ⟨k, rfl, hk, hb⟩ := hrel
        have HB := Lib.hid hb
        have z1 : wr.cell? ⟨bx, 1, none⟩ = some (.slice A G.names.length c) := blk_cell (blk_below X4.out hb) 1
        have T6 := Lib.hid (T5.out.below hb)
        have U6 := Lib.hid (U5.out.below hb)
        clear hb
        by_cases hlt : k < G.names.length
        · obtain ⟨R, hR⟩ : ∃ R, t.rank fin.1 k a ((a : Int) + m) = R := ⟨_, rfl⟩
          have hR' : u.rank fin'.1 k 0 m = R := by
            have h1 := EQ.out k 0 m (by rw [HTK.out]; exact hlt) (Int.le_refl _) (by omega) (Int.le_refl _)
            rw [rank_in (by rw [HUK.out, HTK.out]; exact hlt) (Int.le_refl _) (by omega) (by rw [UW.out, HCUT.out.1]; omega), ← h1, ← hR, rank_in (by rw [HTK.out]; exact hlt) (by omega) (by omega) (by rw [TW.out]; omega), Int.zero_add, Int.add_comm]
          have HRT := Lib.hid hR
          have HRU := Lib.hid hR'
          have d1 : (decide (0 < R) != decide (0 < R)) = false := by simp
          have e9 : IntKind.i64.wrap ((a : Int) + m - a) = m := by rw [IntWalk.i64_in _ (by omega)]; omega
          clear hR hR'
          go_wp2_with (first
            | (go_at_call_of 16 (t.p); refine Calls.mono (has_any (t := t) (NM := fin.1) (PL := fin.2) (by exact (show Hid (Tab _ t fin) by assumption).out.st) T5.out.H.F (by exact (show Hid (Tab _ t fin) by assumption).out.rw) _ _ _) ?_; rintro e w6 ⟨rfl, hb6⟩; have T6 := Lib.hid ((show Hid (Tab _ t fin) by assumption).out.below hb6); have U6 := Lib.hid ((show Hid (Tab _ u fin') by assumption).out.below hb6); have HB6 := Lib.hid (below_trans (show Hid (Below w4.heap.size w4 _) by assumption).out hb6); clear hb6; rw [HRT.out])
            | (go_at_call_of 16 (u.p); refine Calls.mono (has_any (t := u) (NM := fin'.1) (PL := fin'.2) (by exact (show Hid (Tab _ u fin') by assumption).out.st) U5.out.H.F (by exact (show Hid (Tab _ u fin') by assumption).out.rw) _ _ _) ?_; rintro e w6 ⟨rfl, hb6⟩; have T6 := Lib.hid ((show Hid (Tab _ t fin) by assumption).out.below hb6); have U6 := Lib.hid ((show Hid (Tab _ u fin') by assumption).out.below hb6); have HB6 := Lib.hid (below_trans (show Hid (Below w4.heap.size w4 _) by assumption).out hb6); clear hb6; rw [HRU.out])
            | (go_at_call_of 19 (t.p); refine Calls.mono (rank_any (t := t) (NM := fin.1) (PL := fin.2) (by exact (show Hid (Tab _ t fin) by assumption).out.st) T5.out.H.F (by exact (show Hid (Tab _ t fin) by assumption).out.rw) _ _ _) ?_; rintro e w6 ⟨rfl, hb6⟩; have T6 := Lib.hid ((show Hid (Tab _ t fin) by assumption).out.below hb6); have U6 := Lib.hid ((show Hid (Tab _ u fin') by assumption).out.below hb6); have HB6 := Lib.hid (below_trans (show Hid (Below w4.heap.size w4 _) by assumption).out hb6); clear hb6; rw [HRT.out])
            | (go_at_call_of 19 (u.p); refine Calls.mono (rank_any (t := u) (NM := fin'.1) (PL := fin'.2) (by exact (show Hid (Tab _ u fin') by assumption).out.st) U5.out.H.F (by exact (show Hid (Tab _ u fin') by assumption).out.rw) _ _ _) ?_; rintro e w6 ⟨rfl, hb6⟩; have T6 := Lib.hid ((show Hid (Tab _ t fin) by assumption).out.below hb6); have U6 := Lib.hid ((show Hid (Tab _ u fin') by assumption).out.below hb6); have HB6 := Lib.hid (below_trans (show Hid (Below w4.heap.size w4 _) by assumption).out hb6); clear hb6; rw [HRU.out])
            | fail)
          go_roundw
          case rel => exact ⟨k + 1, by go_num, by omega, (show Hid (Below w4.heap.size w4 _) by assumption).out⟩
          case measure => simp [intOf]; omega
        · have hke : k = G.names.length := by omega
          subst hke
          go_wp2_with fail
          go_ret
          exact ⟨rfl, below_trans HB0.out (below_trans HC3.out (below_trans HB4.out HB.out))⟩
end Go.Proofs.Ytmccdakmdcdbeaa
