/-
  Io: templeref6.In walked; templelaw22.TreeNone answers true.
-/
import Derived.Test.YtbidpeggdhkahaaGreatIk
import Derived.Test.YtbidpeggdhkahaaGreatN23
set_option linter.unusedSimpArgs false
set_option linter.unusedVariables false
namespace Go.Proofs.YtbidpeggdhkahaaGreat
open Go.RowKit

/-- Has the start all of the text? -/
def InB (G : Gram) (W : ByteArray) (b : Bool) : Prop := ∃ (N : Rk) (P : Nat → Nat → Nat → Int → Int → Int), View G.rules G.names.length (fun i => btz W i) W.size N P ∧ b = decide (0 < N G.start.toNat 0 W.size)
theorem good_lev {G : Gram} (h : ¬ RefG G) : ∃ lev, GoodLev G lev := by
  have hm : mayB G = true := by
    cases h' : mayB G with
    | true => rfl
    | false => exact absurd (.inl h') h
  have hN : ¬ NegCyc (edgesOf G) := fun h' => h (.inr h')
  have hE := edgesOf_in (mayG hm)
  obtain ⟨F, hF⟩ := lev_min hE hN
  exact ⟨_, good_levOf hm (fun _ => Iff.rfl) hN hF (fun _ _ => rfl)⟩
theorem view_one {G : Gram} {W : ByteArray} (h : ¬ RefG G) {N N' : Rk} {P P' : Nat → Nat → Nat → Int → Int → Int} (V : View G.rules G.names.length (fun i => btz W i) W.size N P) (V' : View G.rules G.names.length (fun i => btz W i) W.size N' P') :
    ∀ (k : Nat) (i j : Int), k < G.names.length → 0 ≤ i → i ≤ j → j ≤ W.size → N k i j = N' k i j := by
  obtain ⟨lev, hg⟩ := good_lev h
  have M := mayG hg.may
  have hV := View.eq V V' (fun _ _ _ => rfl) (fun h => lev.getD h 0) (fun r x hx => (hg.low x.head.toNat (by have := M.head r x hx; omega)).1) (fun r x c y s hx hy hs => by
    obtain ⟨q, hq⟩ := List.mem_iff_getElem?.1 hs
    refine ⟨(symB_lt (M.sym r x c y q s hx hy hq) (by have := M.K1; omega)).1, fun h0 => ?_⟩
    exact hg.edge ⟨x.head.toNat, s.name.toNat, y.neg⟩ (mem_edgesOf.2 ⟨x, List.mem_of_getElem? hx, y, List.mem_of_getElem? hy, s, hs, h0, rfl⟩)) G.names.length
  intro k i j hk i0 ij j1
  exact hV.1 k i j hk (by have := (hg.low k hk).2; show lev.getD k 0 ≤ _; omega) i0 ij j1
theorem in_one {G : Gram} {W : ByteArray} (h : ¬ RefG G) {b b' : Bool} (h1 : InB G W b) (h2 : InB G W b') : b = b' := by
  obtain ⟨N, P, V, rfl⟩ := h1
  obtain ⟨N', P', V', rfl⟩ := h2
  have hm : mayB G = true := by
    cases h' : mayB G with
    | true => rfl
    | false => exact absurd (.inl h') h
  have M := mayG hm
  have := M.start0
  have := M.start1
  rw [view_one h V V' G.start.toNat 0 W.size (by omega) (Int.le_refl _) (by omega) (Int.le_refl _)]
/-- What In answers. -/
def InPost (w : World) (G : Gram) (W : ByteArray) (e : Ending) (w' : World) : Prop := Below w.heap.size w w' ∧ (((RefG G ∨ 32 < W.size) ∧ e = .returned (.bool false)) ∨ (¬ (RefG G ∨ 32 < W.size) ∧ ∃ b, InB G W b ∧ e = .returned (.bool b)))
theorem new6_ref {w : World} {G : Gram} {W : ByteArray} {A' : Option Addr} {e : Ending} {w' : World} (hR : RefG G ∨ 32 < W.size) (h : NewPost6 w G W A' e w') : e = .returned (.tuple #[.pointer none, .int .i64 1100]) ∧ Below w.heap.size w w' := by
  rcases h with ⟨-, h⟩ | ⟨hm, hN, hW, -⟩
  · exact h
  · rcases hR with (h | h) | h
    · rw [hm] at h; cases h
    · exact absurd h hN
    · omega
theorem new6_good {w : World} {G : Gram} {W : ByteArray} {A' : Option Addr} {e : Ending} {w' : World} (hR : ¬ (RefG G ∨ 32 < W.size)) (h : NewPost6 w G W A' e w') : NewGood w G W A' e w' := by
  rcases h with ⟨h, -⟩ | ⟨-, -, -, h⟩
  · exact absurd h hR
  · exact h
/-- The table's answer for the start. -/
theorem has_in {G : Gram} {W : ByteArray} (hR : ¬ (RefG G ∨ 32 < W.size)) {t : RT} {T st : Rk × Rk} (hG : t.G = G) (hW : t.W = W) (hT : Truth t.G t.W T) (R : RanksIn t T st) : InB G W (decide (0 < t.rank st.1 G.start 0 W.size)) := by
  have hm : mayB G = true := by
    cases h' : mayB G with
    | true => rfl
    | false => exact absurd (.inl (.inl h')) hR
  have M := mayG hm
  have h0 := M.start0
  have h1 := M.start1
  subst hG hW
  refine ⟨T.1, _, hT.view, ?_⟩
  have e := rrank_at (t := t) (n := st.1) (k := t.G.start.toNat) (i := 0) (j := t.W.size) (by omega) (Int.le_refl _) (by omega) (Int.le_refl _)
  rw [show ((t.G.start.toNat : Nat) : Int) = t.G.start by omega] at e
  rw [e, R.n _ _ _ (by omega) (Int.le_refl _) (by omega) (Int.le_refl _)]

set_option maxRecDepth 100000 in
set_option maxHeartbeats 4000000 in
theorem in_any {w : World} (G : Gram) (W : ByteArray) {A A' : Option Addr} {c c' : Nat} (hWs : W.size < 9223372036854775807) (n1 : G.names.length ≤ c) (n2 : c ≤ 9223372036854775807) (n3 : Rd.str.C w A G.names) (n4 : G.rules.length ≤ c') (n5 : c' ≤ 9223372036854775807) (n6 : rulRd.C w A' G.rules) :
    Calls Tryz.prog 17 #[.agg #[.int .i64 G.start, .slice A G.names.length c, .slice A' G.rules.length c'], .string W] w (InPost w G W) := by
  have hb0 : Below w.heap.size w (w.alloc (Obj.cells #[Value.int .i64 G.start, Value.slice A G.names.length c, Value.slice A' G.rules.length c'] 25)) := below_alloc' (below_refl w) _
  have B0 := heap_alloc_new w (Obj.cells #[Value.int .i64 G.start, Value.slice A G.names.length c, Value.slice A' G.rules.length c'] 25)
  have HC := Lib.hid (show Calls Tryz.prog 14 #[.agg #[.int .i64 G.start, .slice A G.names.length c, .slice A' G.rules.length c'], .string W] (w.alloc (Obj.cells #[Value.int .i64 G.start, Value.slice A G.names.length c, Value.slice A' G.rules.length c'] 25)) _ from rnew_any (c := c) (c' := c') hWs (by omega) (by omega) (n3.mono hb0) (n6.mono hb0))
  obtain ⟨bg, hbg⟩ : ∃ bg, bg = w.heap.size := ⟨_, rfl⟩
  have HW := Lib.hid hWs
  clear n3 n6 n1 n2 n4 n5 hWs
  go_enter Tryz.func17, Tryz.ntmps17
  go_upto_region 1 with fail
  change Code.wp _ _ _ _ (w.alloc (Obj.cells #[Value.int .i64 G.start, Value.slice A G.names.length c, Value.slice A' G.rules.length c'] 25))
  rw [← hbg] at B0 ⊢
  generalize w.alloc (Obj.cells #[Value.int .i64 G.start, Value.slice A G.names.length c, Value.slice A' G.rules.length c'] 25) = w0 at hb0 B0 HC ⊢
  have z0 : w0.cell? ⟨bg, 0, none⟩ = some (.int .i64 G.start) := blk_cell B0 0
  have z1 : w0.cell? ⟨bg, 1, none⟩ = some (.slice A G.names.length c) := blk_cell B0 1
  have z2 : w0.cell? ⟨bg, 2, none⟩ = some (.slice A' G.rules.length c') := blk_cell B0 2
  have HB0 := Lib.hid hb0
  clear hbg hb0 B0
  by_cases hR : RefG G ∨ 32 < W.size
  · have HR := Lib.hid hR
    clear hR
    go_wp2_with (first
      | (go_at_call 14; (with_reducible refine HC.out.mono ?_); intro e w1 h1; obtain ⟨rfl, hb1⟩ := new6_ref HR.out h1; have HB1 := Lib.hid (below_then HB0.out hb1); clear h1 hb1 z0 z1 z2)
      | fail)
    go_ret
    exact ⟨HB1.out, .inl ⟨HR.out, rfl⟩⟩
  · have HR := Lib.hid hR
    clear hR
    go_wp2_with (first
      | (go_at_call 14; (with_reducible refine HC.out.mono ?_); intro e w1 h1; obtain ⟨t, T, st, hG, hWt, F, hT, hA, hN, -, R, rfl, hb1, -, -⟩ := new6_good HR.out h1; have HH := Lib.hid (rhas_any hA F hN G.start 0 W.size); have HI := Lib.hid (has_in HR.out hG hWt hT R); have HB1 := Lib.hid (below_then HB0.out hb1); have y0 := below_cell hb1 z0; clear h1 hb1 z0 z1 z2 hG hWt F hT hA hN R)
      | (go_at_call 15; (with_reducible refine HH.out.mono ?_); rintro e w2 ⟨rfl, hb2⟩; have HB2 := Lib.hid (below_then HB1.out hb2); clear hb2)
      | fail)
    go_ret
    exact ⟨HB2.out, .inr ⟨HR.out, _, HI.out, rfl⟩⟩
/-- How many branches, and which error. -/
def FirC (b : Bool) (n : Nat) (x : Int) : Prop := (b = false ∧ n = 0 ∧ x = 2201) ∨ (b = true ∧ n = 0 ∧ x = 2202) ∨ (b = true ∧ 1 ≤ n ∧ x = 0)
theorem first_ref {w w' : World} {G : Gram} {W : ByteArray} {e : Ending} (hR : RefG G ∨ 32 < W.size) (h : FirstPost w G W e w') : Below w.heap.size w w' ∧ e = .returned (.tuple #[.slice none 0 0, .int .i64 2200]) := by
  obtain ⟨hb, ⟨-, h⟩ | ⟨h1, h2, -⟩⟩ := h
  · exact ⟨hb, h⟩
  · rcases hR with h | h
    · exact absurd h h1
    · omega
theorem first_good {w w' : World} {G : Gram} {W : ByteArray} {e : Ending} (hR : ¬ (RefG G ∨ 32 < W.size)) (h : FirstPost w G W e w') : Below w.heap.size w w' ∧ ∃ b n x A c, InB G W b ∧ FirC b n x ∧ e = .returned (.tuple #[.slice A n c, .int .i64 x]) := by
  obtain ⟨hb, ⟨h, -⟩ | ⟨h1, h2, N, P, V, h⟩⟩ := h
  · exact absurd h hR
  · have hm : mayB G = true := by
      cases h' : mayB G with
      | true => rfl
      | false => exact absurd (.inl h') h1
    have M := mayG hm
    have s0 := M.start0
    have s1 := M.start1
    have er : rankV G W N P (rootK G W) = N G.start.toNat 0 W.size := rankV_name (by omega) (Int.le_refl _) (by omega) (Int.le_refl _) _ rfl (by show G.start = _; omega) rfl rfl
    refine ⟨hb, ?_⟩
    unfold FirstIs at h
    rw [er] at h
    rcases h with ⟨h, he⟩ | ⟨h, -, he⟩ | ⟨h, bs, A, c, hf, he, -, -, -⟩
    · exact ⟨false, 0, 2201, none, 0, ⟨N, P, V, by rw [h]; rfl⟩, .inl ⟨rfl, rfl, rfl⟩, he⟩
    · exact ⟨true, 0, 2202, none, 0, ⟨N, P, V, by rw [decide_eq_true h]⟩, .inr (.inl ⟨rfl, rfl, rfl⟩), he⟩
    · refine ⟨true, bs.length, 0, A, c, ⟨N, P, V, by rw [decide_eq_true h]⟩, .inr (.inr ⟨rfl, ?_, rfl⟩), he⟩
      have hr : 0 < rankV G W N P (rootK G W) := by rw [er]; exact h
      have := firstGo_out (rkOK M V) 4098 [] [rootK G W] bs (fun q hq => by rw [List.mem_singleton.1 hq]; exact ⟨rfl, hr⟩) hf
      rw [this, List.flatMap_cons, treeOf_eq (rkOK M V) hr rfl]
      simp

set_option maxRecDepth 100000 in
set_option maxHeartbeats 4000000 in
theorem none_any {w : World} (G : Gram) (W : ByteArray) {A A' : Option Addr} {c c' : Nat} (hWs : W.size < 9223372036854775807) (n1 : G.names.length ≤ c) (n2 : c ≤ 9223372036854775807) (n3 : Rd.str.C w A G.names) (n4 : G.rules.length ≤ c') (n5 : c' ≤ 9223372036854775807) (n6 : rulRd.C w A' G.rules) :
    Calls Tryz.prog 5 #[.agg #[.int .i64 G.start, .slice A G.names.length c, .slice A' G.rules.length c'], .string W] w
      fun e w' => e = .returned (.bool true) ∧ Below w.heap.size w w' := by
  have hb0 : Below w.heap.size w (w.alloc (Obj.cells #[Value.int .i64 G.start, Value.slice A G.names.length c, Value.slice A' G.rules.length c'] 25)) := below_alloc' (below_refl w) _
  have B0 := heap_alloc_new w (Obj.cells #[Value.int .i64 G.start, Value.slice A G.names.length c, Value.slice A' G.rules.length c'] 25)
  have N3 := n3.mono hb0
  have N6 := n6.mono hb0
  obtain ⟨bg, hbg⟩ : ∃ bg, bg = w.heap.size := ⟨_, rfl⟩
  clear n3 n6
  go_enter Tryz.func5, Tryz.ntmps5
  go_upto_region 1 with fail
  change Code.wp _ _ _ _ (w.alloc (Obj.cells #[Value.int .i64 G.start, Value.slice A G.names.length c, Value.slice A' G.rules.length c'] 25))
  rw [← hbg] at B0 ⊢
  generalize w.alloc (Obj.cells #[Value.int .i64 G.start, Value.slice A G.names.length c, Value.slice A' G.rules.length c'] 25) = w0 at hb0 B0 N3 N6 ⊢
  have CF := Lib.hid (show ∀ W1, Below w0.heap.size w0 W1 → Calls Tryz.prog 7 #[.agg #[.int .i64 G.start, .slice A G.names.length c, .slice A' G.rules.length c'], .string W] W1 (FirstPost W1 G W) from fun W1 h1 => first_any G W n1 n2 (N3.mono h1) n4 n5 (N6.mono h1))
  have CN := Lib.hid (show ∀ W1, Below w0.heap.size w0 W1 → Calls Tryz.prog 14 #[.agg #[.int .i64 G.start, .slice A G.names.length c, .slice A' G.rules.length c'], .string W] W1 (NewPost6 W1 G W A') from fun W1 h1 => rnew_any (c := c) (c' := c') hWs (by omega) (by omega) (N3.mono h1) (N6.mono h1))
  have CI := Lib.hid (show ∀ W1, Below w0.heap.size w0 W1 → Calls Tryz.prog 17 #[.agg #[.int .i64 G.start, .slice A G.names.length c, .slice A' G.rules.length c'], .string W] W1 (InPost W1 G W) from fun W1 h1 => in_any G W hWs n1 n2 (N3.mono h1) n4 n5 (N6.mono h1))
  have z0 : w0.cell? ⟨bg, 0, none⟩ = some (.int .i64 G.start) := blk_cell B0 0
  have z1 : w0.cell? ⟨bg, 1, none⟩ = some (.slice A G.names.length c) := blk_cell B0 1
  have z2 : w0.cell? ⟨bg, 2, none⟩ = some (.slice A' G.rules.length c') := blk_cell B0 2
  have HB0 := Lib.hid hb0
  clear hbg hb0 B0 n1 n2 n4 n5 N3 N6 hWs
  by_cases hR : RefG G ∨ 32 < W.size
  · have HR := Lib.hid hR
    clear hR
    go_wp2_with (first
      | (go_at_call 13; (with_reducible refine (awake_any _).mono ?_); rintro e w1 ⟨rfl, hb1⟩; have HB1 := Lib.hid hb1; have z0 := below_cell hb1 z0; have z1 := below_cell hb1 z1; have z2 := below_cell hb1 z2; clear hb1)
      | (go_at_call 7; (with_reducible refine (CF.out _ HB1.out).mono ?_); intro e w2 h2; obtain ⟨hb2, rfl⟩ := first_ref HR.out h2; have HB2 := Lib.hid (below_then HB1.out hb2); have z0 := below_cell hb2 z0; have z1 := below_cell hb2 z1; have z2 := below_cell hb2 z2; clear h2 hb2)
      | (go_at_call 14; (with_reducible refine (CN.out _ HB2.out).mono ?_); intro e w3 h3; obtain ⟨rfl, hb3⟩ := new6_ref HR.out h3; have HB3 := Lib.hid (below_then HB2.out hb3); clear h3 hb3 z0 z1 z2)
      | (go_at_call 10; refine (num_any _ _).mono ?_; rintro e w5 ⟨rfl, rfl⟩)
      | fail)
    go_ret
    exact ⟨rfl, below_then HB0.out HB3.out⟩
  · have HR := Lib.hid hR
    clear hR
    go_upto_region 4 with (first
      | (go_at_call 13; (with_reducible refine (awake_any _).mono ?_); rintro e w1 ⟨rfl, hb1⟩; have HB1 := Lib.hid hb1; have z0 := below_cell hb1 z0; have z1 := below_cell hb1 z1; have z2 := below_cell hb1 z2; clear hb1)
      | (go_at_call 7; (with_reducible refine (CF.out _ HB1.out).mono ?_); intro e w2 h2; obtain ⟨hb2, b, n, x, A1, c1, hI, hF, rfl⟩ := first_good HR.out h2; have HI := Lib.hid hI; have HF := Lib.hid hF; have HB2 := Lib.hid (below_then HB1.out hb2); have z0 := below_cell hb2 z0; have z1 := below_cell hb2 z1; have z2 := below_cell hb2 z2; clear h2 hb2 hI hF)
      | fail)
    obtain ⟨rfl, rfl, rfl⟩ | ⟨rfl, rfl, rfl⟩ | ⟨rfl, hn, rfl⟩ := HF.out
    · clear HF
      go_wp2_with (first
        | (go_at_call 14; (with_reducible refine (CN.out _ HB2.out).mono ?_); intro e w3 h3; obtain ⟨t, T, st, -, -, -, -, -, -, -, -, rfl, hb3, -, -⟩ := new6_good HR.out h3; have HB3 := Lib.hid (below_then HB2.out hb3); have z0 := below_cell hb3 z0; have z1 := below_cell hb3 z1; have z2 := below_cell hb3 z2; clear h3 hb3)
        | (go_at_call 17; (with_reducible refine (CI.out _ HB3.out).mono ?_); intro e w4 h4; obtain ⟨hb4, ⟨h4, -⟩ | ⟨-, b', hI', rfl⟩⟩ := h4; (exact absurd h4 HR.out); obtain rfl := in_one (fun h => HR.out (.inl h)) HI.out hI'; have HB4 := Lib.hid (below_then HB3.out hb4); clear hb4 hI' z0 z1 z2)
        | (go_at_call 10; refine (num_any _ _).mono ?_; rintro e w5 ⟨rfl, rfl⟩)
        | fail)
      go_ret
      exact ⟨rfl, below_then HB0.out HB4.out⟩
    · clear HF
      go_wp2_with (first
        | (go_at_call 14; (with_reducible refine (CN.out _ HB2.out).mono ?_); intro e w3 h3; obtain ⟨t, T, st, -, -, -, -, -, -, -, -, rfl, hb3, -, -⟩ := new6_good HR.out h3; have HB3 := Lib.hid (below_then HB2.out hb3); have z0 := below_cell hb3 z0; have z1 := below_cell hb3 z1; have z2 := below_cell hb3 z2; clear h3 hb3)
        | (go_at_call 17; (with_reducible refine (CI.out _ HB3.out).mono ?_); intro e w4 h4; obtain ⟨hb4, ⟨h4, -⟩ | ⟨-, b', hI', rfl⟩⟩ := h4; (exact absurd h4 HR.out); obtain rfl := in_one (fun h => HR.out (.inl h)) HI.out hI'; have HB4 := Lib.hid (below_then HB3.out hb4); clear hb4 hI' z0 z1 z2)
        | (go_at_call 10; refine (num_any _ _).mono ?_; rintro e w5 ⟨rfl, rfl⟩)
        | fail)
      go_ret
      exact ⟨rfl, below_then HB0.out HB4.out⟩
    · clear HF
      have hn1 : (0 : Int) < n := by omega
      go_wp2_with (first
        | (go_at_call 14; (with_reducible refine (CN.out _ HB2.out).mono ?_); intro e w3 h3; obtain ⟨t, T, st, -, -, -, -, -, -, -, -, rfl, hb3, -, -⟩ := new6_good HR.out h3; have HB3 := Lib.hid (below_then HB2.out hb3); have z0 := below_cell hb3 z0; have z1 := below_cell hb3 z1; have z2 := below_cell hb3 z2; clear h3 hb3)
        | (go_at_call 17; (with_reducible refine (CI.out _ HB3.out).mono ?_); intro e w4 h4; obtain ⟨hb4, ⟨h4, -⟩ | ⟨-, b', hI', rfl⟩⟩ := h4; (exact absurd h4 HR.out); obtain rfl := in_one (fun h => HR.out (.inl h)) HI.out hI'; have HB4 := Lib.hid (below_then HB3.out hb4); clear hb4 hI' z0 z1 z2)
        | (go_at_call 10; refine (num_any _ _).mono ?_; rintro e w5 ⟨rfl, rfl⟩)
        | fail)
      go_ret
      exact ⟨rfl, below_then HB0.out HB4.out⟩
end Go.Proofs.YtbidpeggdhkahaaGreat
