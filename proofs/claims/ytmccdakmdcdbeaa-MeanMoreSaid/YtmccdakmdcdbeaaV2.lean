/-
  V2: templelaw11.MeanRows answers true.
-/
import Derived.Test.YtmccdakmdcdbeaaV1
import Derived.Test.YtmccdakmdcdbeaaT3
import Derived.Test.YtmccdakmdcdbeaaK6
import Derived.Test.YtmccdakmdcdbeaaU1
set_option linter.unusedSimpArgs false
set_option linter.unusedVariables false
namespace Go.Proofs.Ytmccdakmdcdbeaa
open Go.RowKit

theorem holdable_of {G : Gram} (M : MayG G) : Holdable G where
  names := by have := M.K64; omega
  rules := by have := M.rules; omega
  conj x hx := by
    obtain ⟨r, hr⟩ := List.getElem?_of_mem hx
    have := (M.conj r x hr).2
    omega
  seq x hx y hy := by
    obtain ⟨r, hr⟩ := List.getElem?_of_mem hx
    obtain ⟨c, hc⟩ := List.getElem?_of_mem hy
    have := M.seq r x c y hr hc
    omega
/-- The remainder by the count of names. -/
theorem umod_names (x : Int) {n : Nat} (h1 : 1 ≤ n) (h2 : n ≤ 64) : ∃ a : Nat, (IntKind.u64.wrap x).tmod (n : Int) = a ∧ a < n := by
  obtain ⟨m, rfl⟩ : ∃ m, n = m + 1 := ⟨n - 1, by omega⟩
  obtain ⟨a, ha, hb⟩ := umod_nat x m
  exact ⟨a, by push_cast; exact ha, by omega⟩
/-- One conjunct, laid. -/
theorem conj_lie (w : World) (neg : Bool) (ss : List Sym) (hs : ss.length ≤ 64) : conjRd.C ((w.alloc (symO ss)).alloc (.cells #[.bool neg, .slice (some ⟨w.heap.size, 0, none⟩) ss.length ss.length] 48 (0, 0))) (some ⟨w.heap.size + 1, 0, none⟩) [⟨neg, ss⟩] := by
  have h0 := symO_C (heap_alloc2_old w (symO ss) (.cells #[.bool neg, .slice (some ⟨w.heap.size, 0, none⟩) ss.length ss.length] 48 (0, 0)))
  exact C_blk [[.bool neg, .slice (some ⟨w.heap.size, 0, none⟩) ss.length ss.length]] (heap_alloc2_new w (symO ss) _) rfl ⟨⟨conjRd_mk (x := ⟨neg, ss⟩) (Nat.le_refl _) (by show ss.length ≤ _; omega) h0, rfl⟩, trivial⟩
/-- A row of two names, its answers. -/
theorem rows_ans {w w' : World} {t u : TS} {fin fin' : Rk × Rk} (T : Tab w t fin) (U : Tab w' u fin') {p q : Nat} (hp : p < t.K) (hq : q < t.K) (hG : u.G = oneG t.G [⟨false, [⟨(p : Int), 0, 0⟩, ⟨(q : Int), 0, 0⟩]⟩]) (hW : u.W = t.W) {i j : Int} (i0 : 0 ≤ i) (ij : i ≤ j) (j1 : j ≤ t.W.size) :
    (0 < u.rank fin'.1 t.K i j ↔ ∃ m, i ≤ m ∧ m ≤ j ∧ 0 < t.rank fin.1 p i m ∧ 0 < t.rank fin.1 q m j) ∧ u.rank fin'.1 p i j = t.rank fin.1 p i j := by
  have hK : u.K = t.K + 1 := by unfold TS.K; rw [hG]; simp [oneG]
  have hWs : u.W.size = t.W.size := by rw [hW]
  have EQ := ext_eq T U (by rw [hG, oneG_ext]) hW (fun x hx => by rw [List.mem_singleton.1 hx]; rfl)
  have V := U.view
  have hx : u.G.rules[t.G.rules.length]? = some ⟨(t.K : Int), [⟨false, [⟨(p : Int), 0, 0⟩, ⟨(q : Int), 0, 0⟩]⟩]⟩ := by
    rw [hG, oneG_ext]; exact ext_at 0
  have only : ∀ r x, u.G.rules[r]? = some x → x.head.toNat = t.K → r = t.G.rules.length := fun r x h1 h2 => by
    rw [hG, oneG_ext] at h1
    rcases ext_new h1 with h | ⟨h3, h⟩
    · have := T.H.F.head r x h; omega
    · have := (List.getElem?_eq_some_iff.1 h).1
      simp at this
      omega
  have N := name_one V hx only (by omega) i0 ij (by omega)
  refine ⟨?_, by rw [rank_in (by omega) i0 ij (by omega), rank_in hp i0 ij j1, EQ p i j hp i0 ij j1]⟩
  rw [rank_in (by omega) i0 ij (by omega), N.1, holds_1]
  have S := seq_two V hx (c := 0) rfl i0 ij (by omega)
  have e : (decide (0 < fin'.2 (u.off t.G.rules.length 0 + 0) i j) == false) = false ↔ 0 < fin'.2 (u.off t.G.rules.length 0 + 0) i j := by simp
  rw [e, S]
  constructor
  · rintro ⟨m, a, b, c, d⟩
    exact ⟨m, a, b, by rw [rank_in hp i0 a (by omega), EQ p i m hp i0 a (by omega)]; exact c, by rw [rank_in hq (by omega) b j1, EQ q m j hq (by omega) b j1]; exact d⟩
  · rintro ⟨m, a, b, c, d⟩
    rw [rank_in hp i0 a (by omega), EQ p i m hp i0 a (by omega)] at c
    rw [rank_in hq (by omega) b j1, EQ q m j hq (by omega) b j1] at d
    exact ⟨m, a, b, c, d⟩
def SomeRel (w : World) (Q : Int → Prop) (i j : Nat) (sv cnt : Value) (wr : World) : Prop :=
  ∃ (k : Nat) (s : Bool), cnt = .int .i64 k ∧ sv = .bool s ∧ i ≤ k ∧ k ≤ j + 1 ∧ Hid (s = true ↔ ∃ m : Int, i ≤ m ∧ m < k ∧ Q m) ∧ Below w.heap.size w wr
theorem some_step {Q : Int → Prop} {i k : Nat} {s b : Bool} (hk : i ≤ k) (h : s = true ↔ ∃ m : Int, i ≤ m ∧ m < k ∧ Q m) (hb : b = true ↔ Q k) : (s || b) = true ↔ ∃ m : Int, i ≤ m ∧ m < (k + 1 : Nat) ∧ Q m := by
  rw [Bool.or_eq_true, h, hb]
  constructor
  · rintro (⟨m, a, b, c⟩ | h)
    · exact ⟨m, a, by omega, c⟩
    · exact ⟨k, by omega, by omega, h⟩
  · rintro ⟨m, a, b, c⟩
    by_cases e : m = k
    · subst e; exact .inr c
    · exact .inl ⟨m, a, by omega, c⟩
set_option maxRecDepth 100000 in
set_option maxHeartbeats 4000000 in
theorem rows_any {w : World} (G : Gram) (W : ByteArray) {A A' : Option Addr} {c c' : Nat} (x y : Int) (hWs : W.size < 140737488351233) (n1 : G.names.length ≤ c) (n2 : c ≤ 9223372036854775807) (n3 : Rd.str.C w A G.names) (n4 : G.rules.length ≤ c') (n5 : c' ≤ 9223372036854775807) (n6 : rulRd.C w A' G.rules) :
    Calls Try.prog 8 #[.agg #[.int .i64 G.start, .slice A G.names.length c, .slice A' G.rules.length c'], .string W, .int .i64 x, .int .i64 y] w
      fun e w' => e = .returned (.bool true) ∧ Below w.heap.size w w' := by
  have hb0 : Below w.heap.size w (w.alloc (Obj.cells #[Value.int .i64 G.start, Value.slice A G.names.length c, Value.slice A' G.rules.length c'] 25)) := below_alloc' (below_refl w) _
  have B0 := heap_alloc_new w (Obj.cells #[Value.int .i64 G.start, Value.slice A G.names.length c, Value.slice A' G.rules.length c'] 25)
  have N3 := Lib.hid (n3.mono hb0)
  have N6 := Lib.hid (n6.mono hb0)
  clear n3 n6
  go_enter Try.func8, Try.ntmps8
  go_wp2_with fail
  obtain ⟨bx, hbx⟩ : ∃ bx, bx = w.heap.size := ⟨_, rfl⟩
  rw [← hbx] at B0 ⊢
  generalize w.alloc (Obj.cells #[Value.int .i64 G.start, Value.slice A G.names.length c, Value.slice A' G.rules.length c'] 25) = w0 at hb0 B0 N3 N6 ⊢
  have HB0 := Lib.hid hb0
  have HX := Lib.hid B0
  clear hb0 B0 hbx
  go_wp2_with (first
    | (go_at_call 13; refine (awake_any _).mono ?_; rintro e w1 ⟨rfl, hb1⟩; have HB1 := Lib.hid hb1; have z0 : w1.cell? ⟨bx, 0, none⟩ = some (.int .i64 G.start) := blk_cell (blk_below HX.out hb1) 0; have z1 : w1.cell? ⟨bx, 1, none⟩ = some (.slice A G.names.length c) := blk_cell (blk_below HX.out hb1) 1; have z2 : w1.cell? ⟨bx, 2, none⟩ = some (.slice A' G.rules.length c') := blk_cell (blk_below HX.out hb1) 2; clear hb1)
    | fail)
  refine (new_whole G W n1 n2 (N3.out.mono HB1.out) n4 n5 (N6.out.mono HB1.out)).mono ?_
  rintro e w2 ⟨hb2, ⟨-, rfl⟩ | ⟨hmay, hcyc, hW, t, fin, hL, tG, tW, rfl, hS, hR, hSol⟩⟩
  · have HB2 := Lib.hid hb2
    clear hb2 z0 z1 z2
    go_wp2_with (first
      | (go_at_call 15; refine (num_any _ _).mono ?_; rintro e w' ⟨rfl, rfl⟩)
      | fail)
    go_ret
    exact ⟨rfl, below_trans HB0.out (below_trans HB1.out HB2.out)⟩
  · have T2 := Lib.hid (show Tab w2 t fin from ⟨hL, hS, hR, hSol⟩)
    have TG := Lib.hid tG
    have TW := Lib.hid tW
    have MAY := Lib.hid hmay
    have CYC := Lib.hid hcyc
    have TK := Lib.hid (show t.K = G.names.length by unfold TS.K; rw [tG])
    have F0 := Lib.hid hL.F
    have HB2 := Lib.hid (below_trans HB1.out hb2)
    have hK1 := (mayG hmay).K1
    have hK64 := (mayG hmay).K64
    have hR256 := (mayG hmay).rules
    clear hb2 z0 z1 z2 HB1 hL hS hR hSol tG tW hmay hcyc
    have bX := Lib.hid (blk_below HX.out HB2.out)
    have z0 : w2.cell? ⟨bx, 0, none⟩ = some (.int .i64 G.start) := blk_cell bX.out 0
    have z1 : w2.cell? ⟨bx, 1, none⟩ = some (.slice A G.names.length c) := blk_cell bX.out 1
    have z2 : w2.cell? ⟨bx, 2, none⟩ = some (.slice A' G.rules.length c') := blk_cell bX.out 2
    have N62 := Lib.hid (N6.out.mono HB2.out)
    have N32 := Lib.hid (N3.out.mono HB2.out)
    clear N6 N3 HX
    by_cases e1 : 64 ≤ G.names.length
    · have e1' : (64 : Int) ≤ (G.names.length : Int) := by omega
      go_wp2_with (first
        | (go_at_call 15; refine (num_any _ _).mono ?_; rintro e w2 ⟨rfl, rfl⟩)
        | fail)
      go_ret
      exact ⟨rfl, below_then HB0.out HB2.out⟩
    by_cases e2 : 256 ≤ G.rules.length
    · have e2' : (256 : Int) ≤ (G.rules.length : Int) := by omega
      go_wp2_with (first
        | (go_at_call 15; refine (num_any _ _).mono ?_; rintro e w2 ⟨rfl, rfl⟩)
        | fail)
      go_ret
      exact ⟨rfl, below_then HB0.out HB2.out⟩
    by_cases e3 : 10 < W.size
    · have e3' : (10 : Int) < (W.size : Int) := by omega
      go_wp2_with (first
        | (go_at_call 15; refine (num_any _ _).mono ?_; rintro e w2 ⟨rfl, rfl⟩)
        | fail)
      go_ret
      exact ⟨rfl, below_then HB0.out HB2.out⟩
    obtain ⟨p, hp, hp1⟩ := umod_names x hK1 hK64
    obtain ⟨q, hq, hq1⟩ := umod_names y hK1 hK64
    have hz : ((G.names.length : Int) = 0) = False := eq_false (by omega)
    go_wp2_with (first
      | (go_at_call 15; refine (num_any _ _).mono ?_; rintro e w2 ⟨rfl, rfl⟩)
      | fail)
    go_quiet (fail)
    have hd : Below w2.heap.size w2 (w2.drewN nq) := below_drewN' (below_refl _) nq
    generalize w2.drewN nq = w3 at hd ⊢
    have T3 := Lib.hid (T2.out.below hd)
    have N63 := Lib.hid (N62.out.mono hd)
    have N33 := Lib.hid (N32.out.mono hd)
    have X3 := Lib.hid (blk_below bX.out hd)
    have HB3 := Lib.hid (below_then HB2.out hd)
    clear hd z0 z1 z2 T2 N62 N32 bX HB2 hp hq hz
    have z0 : w3.cell? ⟨bx, 0, none⟩ = some (.int .i64 G.start) := blk_cell X3.out 0
    have z1 : w3.cell? ⟨bx, 1, none⟩ = some (.slice A G.names.length c) := blk_cell X3.out 1
    have z2 : w3.cell? ⟨bx, 2, none⟩ = some (.slice A' G.rules.length c') := blk_cell X3.out 2
    have s0 : ∀ o o', ((w3.alloc o).alloc o').cell? ⟨bx, 0, none⟩ = some (.int .i64 G.start) := fun o o' => below_cell (below_alloc' (below_alloc' (below_refl _) o) o') z0
    have s1 : ∀ o o', ((w3.alloc o).alloc o').cell? ⟨bx, 1, none⟩ = some (.slice A G.names.length c) := fun o o' => below_cell (below_alloc' (below_alloc' (below_refl _) o) o') z1
    have s2 : ∀ o o', ((w3.alloc o).alloc o').cell? ⟨bx, 2, none⟩ = some (.slice A' G.rules.length c') := fun o o' => below_cell (below_alloc' (below_alloc' (below_refl _) o) o') z2
    go_wp2_with fail
    clear s0 s1 s2
    have hlie := conj_lie w3 false [⟨(p : Int), 0, 0⟩, ⟨(q : Int), 0, 0⟩] (by simp)
    have h34 : Below w3.heap.size w3 ((w3.alloc (symO [⟨(p : Int), 0, 0⟩, ⟨(q : Int), 0, 0⟩])).alloc (.cells #[.bool false, .slice (some ⟨w3.heap.size, 0, none⟩) 2 2] 48 (0, 0))) := below_alloc' (below_alloc' (below_refl _) _) _
    refine Calls.mono (one_any (w := (w3.alloc (symO [⟨(p : Int), 0, 0⟩, ⟨(q : Int), 0, 0⟩])).alloc (.cells #[.bool false, .slice (some ⟨w3.heap.size, 0, none⟩) 2 2] 48 (0, 0))) G [⟨false, [⟨(p : Int), 0, 0⟩, ⟨(q : Int), 0, 0⟩]⟩] n1 n2 (N33.out.mono h34) n4 n5 (N63.out.mono h34) (holdable_of (mayG MAY.out)) (by omega) (by omega) (Nat.le_refl _) (by decide) hlie) ?_
    rintro e w4 ⟨hb4, A1, c1, A2, c2, rfl, l1, l2, l3, l4, l5, l6⟩
    have h4 := below_then h34 hb4
    have T4 := Lib.hid (T3.out.below h4)
    have X4 := Lib.hid (blk_below X3.out h4)
    have HB4 := Lib.hid (below_then HB3.out h4)
    have CN := Lib.hid (new_whole (oneG G [⟨false, [⟨(p : Int), 0, 0⟩, ⟨(q : Int), 0, 0⟩]⟩]) W l1 l2 l3 l4 l5 l6)
    clear hb4 h4 h34 hlie z0 z1 z2 T3 N63 N33 X3 HB3 l1 l2 l3 l4 l5 l6
    go_wp2_with fail
    refine CN.out.mono ?_
    rintro e w6 ⟨hb6, ⟨-, rfl⟩ | ⟨-, -, -, u, fin', uL, uG, uW, rfl, uS, uR, uSol⟩⟩
    · have HB6 := Lib.hid (below_then HB4.out hb6)
      clear hb6
      go_wp2_with (first
        | (go_at_call 15; refine (num_any _ _).mono ?_; rintro e w6 ⟨rfl, rfl⟩)
        | fail)
      go_ret
      exact ⟨rfl, below_then HB0.out HB6.out⟩
    · have U6 := Lib.hid (show Tab w6 u fin' from ⟨uL, uS, uR, uSol⟩)
      have T6 := Lib.hid (T4.out.below hb6)
      have X6 := Lib.hid (blk_below X4.out hb6)
      have HB6 := Lib.hid (below_then HB4.out hb6)
      have UG := Lib.hid uG
      have UW := Lib.hid uW
      have FU := Lib.hid uL.F
      clear hb6 uL uG uW uS uR uSol CN T4 X4 HB4
      go_wp2_with (first
        | (go_at_call 15; refine (num_any _ _).mono ?_; rintro e w6 ⟨rfl, rfl⟩)
        | fail)
      go_loopw [15] (fun cnt wr => NumRel w6 (W.size + 1) cnt wr) (fun cnt _ => W.size + 1 - (intOf cnt).toNat)
      case atStart => exact ⟨0, rfl, Nat.zero_le _, below_refl _⟩
      case round =>
        obtain ⟨i, rfl, hi, hb⟩ := hrel
        have HB := Lib.hid hb
        clear hb
        by_cases hlt : i ≤ W.size
        · go_wp2_with fail
          go_loopw [16] (fun cnt wr' => TillRel w6 i W.size cnt wr') (fun cnt _ => W.size + 1 - (intOf cnt).toNat)
          case atStart => exact ⟨i, rfl, Nat.le_refl _, by omega, HB.out⟩
          case round =>
            clear HB
            obtain ⟨j, rfl, hij, hj, hb⟩ := hrel
            have HB := Lib.hid hb
            clear hb
            by_cases hltj : j ≤ W.size
            · go_wp2_with fail
              go_loopw [17, 18] (fun sv cnt wr' => SomeRel w6 (fun m => 0 < t.rank fin.1 p i m ∧ 0 < t.rank fin.1 q m j) i j sv cnt wr') (fun _ cnt _ => j + 1 - (intOf cnt).toNat)
              case atStart => exact ⟨i, false, rfl, rfl, Nat.le_refl _, by omega, Lib.hid ⟨fun h => (by cases h), fun ⟨m, a, b, _⟩ => (by omega)⟩, HB.out⟩
              case round =>
                clear HB
                obtain ⟨k, s, rfl, rfl, hk, hkj, HS, hb⟩ := hrel
                have HB := Lib.hid hb
                have T7 := Lib.hid (T6.out.below hb)
                have U7 := Lib.hid (U6.out.below hb)
                have X7 := Lib.hid (blk_below X6.out hb)
                clear hb
                by_cases hltk : k ≤ j
                · cases s with
                  | true =>
                    go_wp2_with fail
                    exact ⟨⟨k + 1, true, by go_num, rfl, by omega, by omega, Lib.hid ⟨fun _ => let ⟨m, a, b, c⟩ := HS.out.1 rfl; ⟨m, a, by omega, c⟩, fun _ => rfl⟩, HB.out⟩, by simp [intOf]; omega⟩
                  | false =>
                    cases hA : decide (0 < t.rank fin.1 p i k) with
                    | true =>
                      have HA := Lib.hid hA
                      clear hA
                      obtain ⟨Bv, hBv⟩ : ∃ b, decide (0 < t.rank fin.1 q k j) = b := ⟨_, rfl⟩
                      have HBv := Lib.hid hBv
                      clear hBv
                      go_wp2_with (first
                        | (go_at_call_of 16 (t.p); refine Calls.mono (has_any (t := t) (NM := fin.1) (PL := fin.2) (by exact (show Hid (Tab _ t fin) by assumption).out.st) F0.out (by exact (show Hid (Tab _ t fin) by assumption).out.rw) _ _ _) ?_; rintro e w5 ⟨rfl, hb5⟩; have T5 := Lib.hid ((show Hid (Tab _ t fin) by assumption).out.below hb5); have U5 := Lib.hid ((show Hid (Tab _ u fin') by assumption).out.below hb5); have HB5 := Lib.hid (below_then (show Hid (Below w6.heap.size w6 _) by assumption).out hb5); clear hb5; (first | rw [HA.out] | rw [HBv.out]))
                        | fail)
                      exact ⟨⟨k + 1, Bv, by go_num, rfl, by omega, by omega, Lib.hid (some_step (s := false) hk HS.out (by rw [← HBv.out, decide_eq_true_iff]; exact ⟨fun h => ⟨of_decide_eq_true HA.out, h⟩, fun h => h.2⟩)), HB5.out⟩, by simp [intOf]; omega⟩
                    | false =>
                      have HA := Lib.hid hA
                      clear hA
                      go_wp2_with (first
                        | (go_at_call_of 16 (t.p); refine Calls.mono (has_any (t := t) (NM := fin.1) (PL := fin.2) (by exact (show Hid (Tab _ t fin) by assumption).out.st) F0.out (by exact (show Hid (Tab _ t fin) by assumption).out.rw) _ _ _) ?_; rintro e w5 ⟨rfl, hb5⟩; have T5 := Lib.hid ((show Hid (Tab _ t fin) by assumption).out.below hb5); have U5 := Lib.hid ((show Hid (Tab _ u fin') by assumption).out.below hb5); have HB5 := Lib.hid (below_then (show Hid (Below w6.heap.size w6 _) by assumption).out hb5); clear hb5; rw [HA.out])
                        | fail)
                      exact ⟨⟨k + 1, false, by go_num, rfl, by omega, by omega, Lib.hid (some_step (s := false) (b := false) hk HS.out ⟨fun h => (by cases h), fun h => absurd h.1 (of_decide_eq_false HA.out)⟩), HB5.out⟩, by simp [intOf]; omega⟩
                · have hke : k = j + 1 := by omega
                  subst hke
                  have z1 : wr.cell? ⟨bx, 1, none⟩ = some (.slice A G.names.length c) := blk_cell X7.out 1
                  have ans := rows_ans T7.out U7.out (p := p) (q := q) (by rw [TK.out]; exact hp1) (by rw [TK.out]; exact hq1) (by rw [UG.out, TG.out]) (by rw [UW.out, TW.out]) (i := i) (j := j) (by omega) (by omega) (by rw [TW.out]; omega)
                  rw [TK.out] at ans
                  have E0 := Lib.hid (show decide (0 < u.rank fin'.1 G.names.length i j) = s by
                    rw [Bool.eq_iff_iff, decide_eq_true_iff, ans.1, HS.out]
                    exact ⟨fun ⟨m, a, b, d⟩ => ⟨m, a, by omega, d⟩, fun ⟨m, a, b, d⟩ => ⟨m, a, by omega, d⟩⟩)
                  obtain ⟨R, hR⟩ : ∃ R, t.rank fin.1 p i j = R := ⟨_, rfl⟩
                  have E1 := Lib.hid (show u.rank fin'.1 p i j = R by rw [ans.2]; exact hR)
                  have E2 := Lib.hid hR
                  clear hR ans
                  go_wp2_with (first
                    | (go_at_call_of 16 (t.p); refine Calls.mono (has_any (t := t) (NM := fin.1) (PL := fin.2) (by exact (show Hid (Tab _ t fin) by assumption).out.st) F0.out (by exact (show Hid (Tab _ t fin) by assumption).out.rw) _ _ _) ?_; rintro e w5 ⟨rfl, hb5⟩; have T5 := Lib.hid ((show Hid (Tab _ t fin) by assumption).out.below hb5); have U5 := Lib.hid ((show Hid (Tab _ u fin') by assumption).out.below hb5); have HB5 := Lib.hid (below_then (show Hid (Below w6.heap.size w6 _) by assumption).out hb5); clear hb5; rw [E2.out])
                    | (go_at_call_of 16 (u.p); refine Calls.mono (has_any (t := u) (NM := fin'.1) (PL := fin'.2) (by exact (show Hid (Tab _ u fin') by assumption).out.st) FU.out (by exact (show Hid (Tab _ u fin') by assumption).out.rw) _ _ _) ?_; rintro e w5 ⟨rfl, hb5⟩; have T5 := Lib.hid ((show Hid (Tab _ t fin) by assumption).out.below hb5); have U5 := Lib.hid ((show Hid (Tab _ u fin') by assumption).out.below hb5); have HB5 := Lib.hid (below_then (show Hid (Below w6.heap.size w6 _) by assumption).out hb5); clear hb5; (first | rw [E0.out] | rw [E1.out]))
                    | fail)
                  go_roundw
                  case rel => exact ⟨j + 1, by go_num, by omega, by omega, HB5.out⟩
                  case measure => simp [intOf]; omega
            · have hje : j = W.size + 1 := by omega
              subst hje
              go_wp2_with fail
              go_roundw
              case rel => exact ⟨i + 1, by go_num, by omega, HB.out⟩
              case measure => simp [intOf]; omega
        · have hie : i = W.size + 1 := by omega
          subst hie
          go_wp2_with fail
          go_ret
          exact ⟨rfl, below_then HB0.out (below_then HB6.out HB.out)⟩
end Go.Proofs.Ytmccdakmdcdbeaa
