/-
  Io: templeref6.In walked; templelaw22.TreeNone answers true.
  It: the branches of a tree and what stays open: plain; a branch's count in a row of the call's own.
  Iu: templelaw22.TreeLies answers true.
-/
import Derived.Test.YtbidpeggdhkahaaGreatIk
import Derived.Test.YtbidpeggdhkahaaGreatN23
set_option linter.unusedSimpArgs false
set_option linter.unusedVariables false
namespace Go.Proofs.YtbidpeggdhkahaaGreat
open Go.RowKit

/-- Has the start all of the text? -/
def InB (G : Gram) (W : ByteArray) (b : Bool) : Prop := ∃ (N : Rk) (P : Nat → Nat → Nat → Int → Int → Int), View G.rules G.names.length (fun i => btz W i) W.size N P ∧ b = decide (0 < N G.start.toNat 0 W.size)
theorem good_lev {G : Gram} (h : ¬ RefG G) : ∃ lev, GoodLev G lev := by
  have hm : mayB G = true := by
    cases h' : mayB G with
    | true => rfl
    | false => exact absurd (.inl h') h
  have hN : ¬ NegCyc (edgesOf G) := fun h' => h (.inr h')
  have hE := edgesOf_in (mayG hm)
  obtain ⟨F, hF⟩ := lev_min hE hN
  exact ⟨_, good_levOf hm (fun _ => Iff.rfl) hN hF (fun _ _ => rfl)⟩
theorem view_one {G : Gram} {W : ByteArray} (h : ¬ RefG G) {N N' : Rk} {P P' : Nat → Nat → Nat → Int → Int → Int} (V : View G.rules G.names.length (fun i => btz W i) W.size N P) (V' : View G.rules G.names.length (fun i => btz W i) W.size N' P') :
    ∀ (k : Nat) (i j : Int), k < G.names.length → 0 ≤ i → i ≤ j → j ≤ W.size → N k i j = N' k i j := by
  obtain ⟨lev, hg⟩ := good_lev h
  have M := mayG hg.may
  have hV := View.eq V V' (fun _ _ _ => rfl) (fun h => lev.getD h 0) (fun r x hx => (hg.low x.head.toNat (by have := M.head r x hx; omega)).1) (fun r x c y s hx hy hs => by
    obtain ⟨q, hq⟩ := List.mem_iff_getElem?.1 hs
    refine ⟨(symB_lt (M.sym r x c y q s hx hy hq) (by have := M.K1; omega)).1, fun h0 => ?_⟩
    exact hg.edge ⟨x.head.toNat, s.name.toNat, y.neg⟩ (mem_edgesOf.2 ⟨x, List.mem_of_getElem? hx, y, List.mem_of_getElem? hy, s, hs, h0, rfl⟩)) G.names.length
  intro k i j hk i0 ij j1
  exact hV.1 k i j hk (by have := (hg.low k hk).2; show lev.getD k 0 ≤ _; omega) i0 ij j1
theorem in_one {G : Gram} {W : ByteArray} (h : ¬ RefG G) {b b' : Bool} (h1 : InB G W b) (h2 : InB G W b') : b = b' := by
  obtain ⟨N, P, V, rfl⟩ := h1
  obtain ⟨N', P', V', rfl⟩ := h2
  have hm : mayB G = true := by
    cases h' : mayB G with
    | true => rfl
    | false => exact absurd (.inl h') h
  have M := mayG hm
  have := M.start0
  have := M.start1
  rw [view_one h V V' G.start.toNat 0 W.size (by omega) (Int.le_refl _) (by omega) (Int.le_refl _)]
/-- What In answers. -/
def InPost (w : World) (G : Gram) (W : ByteArray) (e : Ending) (w' : World) : Prop := Below w.heap.size w w' ∧ (((RefG G ∨ 32 < W.size) ∧ e = .returned (.bool false)) ∨ (¬ (RefG G ∨ 32 < W.size) ∧ ∃ b, InB G W b ∧ e = .returned (.bool b)))
theorem new6_ref {w : World} {G : Gram} {W : ByteArray} {A' : Option Addr} {e : Ending} {w' : World} (hR : RefG G ∨ 32 < W.size) (h : NewPost6 w G W A' e w') : e = .returned (.tuple #[.pointer none, .int .i64 1100]) ∧ Below w.heap.size w w' := by
  rcases h with ⟨-, h⟩ | ⟨hm, hN, hW, -⟩
  · exact h
  · rcases hR with (h | h) | h
    · rw [hm] at h; cases h
    · exact absurd h hN
    · omega
theorem new6_good {w : World} {G : Gram} {W : ByteArray} {A' : Option Addr} {e : Ending} {w' : World} (hR : ¬ (RefG G ∨ 32 < W.size)) (h : NewPost6 w G W A' e w') : NewGood w G W A' e w' := by
  rcases h with ⟨h, -⟩ | ⟨-, -, -, h⟩
  · exact absurd h hR
  · exact h
/-- The table's answer for the start. -/
theorem has_in {G : Gram} {W : ByteArray} (hR : ¬ (RefG G ∨ 32 < W.size)) {t : RT} {T st : Rk × Rk} (hG : t.G = G) (hW : t.W = W) (hT : Truth t.G t.W T) (R : RanksIn t T st) : InB G W (decide (0 < t.rank st.1 G.start 0 W.size)) := by
  have hm : mayB G = true := by
    cases h' : mayB G with
    | true => rfl
    | false => exact absurd (.inl (.inl h')) hR
  have M := mayG hm
  have h0 := M.start0
  have h1 := M.start1
  subst hG hW
  refine ⟨T.1, _, hT.view, ?_⟩
  have e := rrank_at (t := t) (n := st.1) (k := t.G.start.toNat) (i := 0) (j := t.W.size) (by omega) (Int.le_refl _) (by omega) (Int.le_refl _)
  rw [show ((t.G.start.toNat : Nat) : Int) = t.G.start by omega] at e
  rw [e, R.n _ _ _ (by omega) (Int.le_refl _) (by omega) (Int.le_refl _)]

set_option maxRecDepth 100000 in
set_option maxHeartbeats 4000000 in
theorem in_any {w : World} (G : Gram) (W : ByteArray) {A A' : Option Addr} {c c' : Nat} (hWs : W.size < 9223372036854775807) (n1 : G.names.length ≤ c) (n2 : c ≤ 9223372036854775807) (n3 : Rd.str.C w A G.names) (n4 : G.rules.length ≤ c') (n5 : c' ≤ 9223372036854775807) (n6 : rulRd.C w A' G.rules) :
    Calls Tryz.prog 17 #[.agg #[.int .i64 G.start, .slice A G.names.length c, .slice A' G.rules.length c'], .string W] w (InPost w G W) := by
  have hb0 : Below w.heap.size w (w.alloc (Obj.cells #[Value.int .i64 G.start, Value.slice A G.names.length c, Value.slice A' G.rules.length c'] 25)) := below_alloc' (below_refl w) _
  have B0 := heap_alloc_new w (Obj.cells #[Value.int .i64 G.start, Value.slice A G.names.length c, Value.slice A' G.rules.length c'] 25)
  have HC := Lib.hid (show Calls Tryz.prog 14 #[.agg #[.int .i64 G.start, .slice A G.names.length c, .slice A' G.rules.length c'], .string W] (w.alloc (Obj.cells #[Value.int .i64 G.start, Value.slice A G.names.length c, Value.slice A' G.rules.length c'] 25)) _ from rnew_any (c := c) (c' := c') hWs (by omega) (by omega) (n3.mono hb0) (n6.mono hb0))
  obtain ⟨bg, hbg⟩ : ∃ bg, bg = w.heap.size := ⟨_, rfl⟩
  have HW := Lib.hid hWs
  clear n3 n6 n1 n2 n4 n5 hWs
  go_enter Tryz.func17, Tryz.ntmps17
  go_upto_region 1 with fail
  change Code.wp _ _ _ _ (w.alloc (Obj.cells #[Value.int .i64 G.start, Value.slice A G.names.length c, Value.slice A' G.rules.length c'] 25))
  rw [← hbg] at B0 ⊢
  generalize w.alloc (Obj.cells #[Value.int .i64 G.start, Value.slice A G.names.length c, Value.slice A' G.rules.length c'] 25) = w0 at hb0 B0 HC ⊢
  have z0 : w0.cell? ⟨bg, 0, none⟩ = some (.int .i64 G.start) := blk_cell B0 0
  have z1 : w0.cell? ⟨bg, 1, none⟩ = some (.slice A G.names.length c) := blk_cell B0 1
  have z2 : w0.cell? ⟨bg, 2, none⟩ = some (.slice A' G.rules.length c') := blk_cell B0 2
  have HB0 := Lib.hid hb0
  clear hbg hb0 B0
  by_cases hR : RefG G ∨ 32 < W.size
  · have HR := Lib.hid hR
    clear hR
    go_wp2_with (first
      | (go_at_call 14; (with_reducible refine HC.out.mono ?_); intro e w1 h1; obtain ⟨rfl, hb1⟩ := new6_ref HR.out h1; have HB1 := Lib.hid (below_then HB0.out hb1); clear h1 hb1 z0 z1 z2)
      | fail)
    go_ret
    exact ⟨HB1.out, .inl ⟨HR.out, rfl⟩⟩
  · have HR := Lib.hid hR
    clear hR
    go_wp2_with (first
      | (go_at_call 14; (with_reducible refine HC.out.mono ?_); intro e w1 h1; obtain ⟨t, T, st, hG, hWt, F, hT, hA, hN, -, R, rfl, hb1, -, -⟩ := new6_good HR.out h1; have HH := Lib.hid (rhas_any hA F hN G.start 0 W.size); have HI := Lib.hid (has_in HR.out hG hWt hT R); have HB1 := Lib.hid (below_then HB0.out hb1); have y0 := below_cell hb1 z0; clear h1 hb1 z0 z1 z2 hG hWt F hT hA hN R)
      | (go_at_call 15; (with_reducible refine HH.out.mono ?_); rintro e w2 ⟨rfl, hb2⟩; have HB2 := Lib.hid (below_then HB1.out hb2); clear hb2)
      | fail)
    go_ret
    exact ⟨HB2.out, .inr ⟨HR.out, _, HI.out, rfl⟩⟩
/-- How many branches, and which error. -/
def FirC (b : Bool) (n : Nat) (x : Int) : Prop := (b = false ∧ n = 0 ∧ x = 2201) ∨ (b = true ∧ n = 0 ∧ x = 2202) ∨ (b = true ∧ 1 ≤ n ∧ x = 0)
theorem first_ref {w w' : World} {G : Gram} {W : ByteArray} {e : Ending} (hR : RefG G ∨ 32 < W.size) (h : FirstPost w G W e w') : Below w.heap.size w w' ∧ e = .returned (.tuple #[.slice none 0 0, .int .i64 2200]) := by
  obtain ⟨hb, ⟨-, h⟩ | ⟨h1, h2, -⟩⟩ := h
  · exact ⟨hb, h⟩
  · rcases hR with h | h
    · exact absurd h h1
    · omega
theorem first_good {w w' : World} {G : Gram} {W : ByteArray} {e : Ending} (hR : ¬ (RefG G ∨ 32 < W.size)) (h : FirstPost w G W e w') : Below w.heap.size w w' ∧ ∃ b n x A c, InB G W b ∧ FirC b n x ∧ e = .returned (.tuple #[.slice A n c, .int .i64 x]) := by
  obtain ⟨hb, ⟨h, -⟩ | ⟨h1, h2, N, P, V, h⟩⟩ := h
  · exact absurd h hR
  · have hm : mayB G = true := by
      cases h' : mayB G with
      | true => rfl
      | false => exact absurd (.inl h') h1
    have M := mayG hm
    have s0 := M.start0
    have s1 := M.start1
    have er : rankV G W N P (rootK G W) = N G.start.toNat 0 W.size := rankV_name (by omega) (Int.le_refl _) (by omega) (Int.le_refl _) _ rfl (by show G.start = _; omega) rfl rfl
    refine ⟨hb, ?_⟩
    unfold FirstIs at h
    rw [er] at h
    rcases h with ⟨h, he⟩ | ⟨h, -, he⟩ | ⟨h, bs, A, c, hf, he, -, -, -⟩
    · exact ⟨false, 0, 2201, none, 0, ⟨N, P, V, by rw [h]; rfl⟩, .inl ⟨rfl, rfl, rfl⟩, he⟩
    · exact ⟨true, 0, 2202, none, 0, ⟨N, P, V, by rw [decide_eq_true h]⟩, .inr (.inl ⟨rfl, rfl, rfl⟩), he⟩
    · refine ⟨true, bs.length, 0, A, c, ⟨N, P, V, by rw [decide_eq_true h]⟩, .inr (.inr ⟨rfl, ?_, rfl⟩), he⟩
      have hr : 0 < rankV G W N P (rootK G W) := by rw [er]; exact h
      have := firstGo_out (rkOK M V) 4098 [] [rootK G W] bs (fun q hq => by rw [List.mem_singleton.1 hq]; exact ⟨rfl, hr⟩) hf
      rw [this, List.flatMap_cons, treeOf_eq (rkOK M V) hr rfl]
      simp

set_option maxRecDepth 100000 in
set_option maxHeartbeats 4000000 in
theorem none_any {w : World} (G : Gram) (W : ByteArray) {A A' : Option Addr} {c c' : Nat} (hWs : W.size < 9223372036854775807) (n1 : G.names.length ≤ c) (n2 : c ≤ 9223372036854775807) (n3 : Rd.str.C w A G.names) (n4 : G.rules.length ≤ c') (n5 : c' ≤ 9223372036854775807) (n6 : rulRd.C w A' G.rules) :
    Calls Tryz.prog 5 #[.agg #[.int .i64 G.start, .slice A G.names.length c, .slice A' G.rules.length c'], .string W] w
      fun e w' => e = .returned (.bool true) ∧ Below w.heap.size w w' := by
  have hb0 : Below w.heap.size w (w.alloc (Obj.cells #[Value.int .i64 G.start, Value.slice A G.names.length c, Value.slice A' G.rules.length c'] 25)) := below_alloc' (below_refl w) _
  have B0 := heap_alloc_new w (Obj.cells #[Value.int .i64 G.start, Value.slice A G.names.length c, Value.slice A' G.rules.length c'] 25)
  have N3 := n3.mono hb0
  have N6 := n6.mono hb0
  obtain ⟨bg, hbg⟩ : ∃ bg, bg = w.heap.size := ⟨_, rfl⟩
  clear n3 n6
  go_enter Tryz.func5, Tryz.ntmps5
  go_upto_region 1 with fail
  change Code.wp _ _ _ _ (w.alloc (Obj.cells #[Value.int .i64 G.start, Value.slice A G.names.length c, Value.slice A' G.rules.length c'] 25))
  rw [← hbg] at B0 ⊢
  generalize w.alloc (Obj.cells #[Value.int .i64 G.start, Value.slice A G.names.length c, Value.slice A' G.rules.length c'] 25) = w0 at hb0 B0 N3 N6 ⊢
  have CF := Lib.hid (show ∀ W1, Below w0.heap.size w0 W1 → Calls Tryz.prog 7 #[.agg #[.int .i64 G.start, .slice A G.names.length c, .slice A' G.rules.length c'], .string W] W1 (FirstPost W1 G W) from fun W1 h1 => first_any G W n1 n2 (N3.mono h1) n4 n5 (N6.mono h1))
  have CN := Lib.hid (show ∀ W1, Below w0.heap.size w0 W1 → Calls Tryz.prog 14 #[.agg #[.int .i64 G.start, .slice A G.names.length c, .slice A' G.rules.length c'], .string W] W1 (NewPost6 W1 G W A') from fun W1 h1 => rnew_any (c := c) (c' := c') hWs (by omega) (by omega) (N3.mono h1) (N6.mono h1))
  have CI := Lib.hid (show ∀ W1, Below w0.heap.size w0 W1 → Calls Tryz.prog 17 #[.agg #[.int .i64 G.start, .slice A G.names.length c, .slice A' G.rules.length c'], .string W] W1 (InPost W1 G W) from fun W1 h1 => in_any G W hWs n1 n2 (N3.mono h1) n4 n5 (N6.mono h1))
  have z0 : w0.cell? ⟨bg, 0, none⟩ = some (.int .i64 G.start) := blk_cell B0 0
  have z1 : w0.cell? ⟨bg, 1, none⟩ = some (.slice A G.names.length c) := blk_cell B0 1
  have z2 : w0.cell? ⟨bg, 2, none⟩ = some (.slice A' G.rules.length c') := blk_cell B0 2
  have HB0 := Lib.hid hb0
  clear hbg hb0 B0 n1 n2 n4 n5 N3 N6 hWs
  by_cases hR : RefG G ∨ 32 < W.size
  · have HR := Lib.hid hR
    clear hR
    go_wp2_with (first
      | (go_at_call 13; (with_reducible refine (awake_any _).mono ?_); rintro e w1 ⟨rfl, hb1⟩; have HB1 := Lib.hid hb1; have z0 := below_cell hb1 z0; have z1 := below_cell hb1 z1; have z2 := below_cell hb1 z2; clear hb1)
      | (go_at_call 7; (with_reducible refine (CF.out _ HB1.out).mono ?_); intro e w2 h2; obtain ⟨hb2, rfl⟩ := first_ref HR.out h2; have HB2 := Lib.hid (below_then HB1.out hb2); have z0 := below_cell hb2 z0; have z1 := below_cell hb2 z1; have z2 := below_cell hb2 z2; clear h2 hb2)
      | (go_at_call 14; (with_reducible refine (CN.out _ HB2.out).mono ?_); intro e w3 h3; obtain ⟨rfl, hb3⟩ := new6_ref HR.out h3; have HB3 := Lib.hid (below_then HB2.out hb3); clear h3 hb3 z0 z1 z2)
      | (go_at_call 10; refine (num_any _ _).mono ?_; rintro e w5 ⟨rfl, rfl⟩)
      | fail)
    go_ret
    exact ⟨rfl, below_then HB0.out HB3.out⟩
  · have HR := Lib.hid hR
    clear hR
    go_upto_region 4 with (first
      | (go_at_call 13; (with_reducible refine (awake_any _).mono ?_); rintro e w1 ⟨rfl, hb1⟩; have HB1 := Lib.hid hb1; have z0 := below_cell hb1 z0; have z1 := below_cell hb1 z1; have z2 := below_cell hb1 z2; clear hb1)
      | (go_at_call 7; (with_reducible refine (CF.out _ HB1.out).mono ?_); intro e w2 h2; obtain ⟨hb2, b, n, x, A1, c1, hI, hF, rfl⟩ := first_good HR.out h2; have HI := Lib.hid hI; have HF := Lib.hid hF; have HB2 := Lib.hid (below_then HB1.out hb2); have z0 := below_cell hb2 z0; have z1 := below_cell hb2 z1; have z2 := below_cell hb2 z2; clear h2 hb2 hI hF)
      | fail)
    obtain ⟨rfl, rfl, rfl⟩ | ⟨rfl, rfl, rfl⟩ | ⟨rfl, hn, rfl⟩ := HF.out
    · clear HF
      go_wp2_with (first
        | (go_at_call 14; (with_reducible refine (CN.out _ HB2.out).mono ?_); intro e w3 h3; obtain ⟨t, T, st, -, -, -, -, -, -, -, -, rfl, hb3, -, -⟩ := new6_good HR.out h3; have HB3 := Lib.hid (below_then HB2.out hb3); have z0 := below_cell hb3 z0; have z1 := below_cell hb3 z1; have z2 := below_cell hb3 z2; clear h3 hb3)
        | (go_at_call 17; (with_reducible refine (CI.out _ HB3.out).mono ?_); intro e w4 h4; obtain ⟨hb4, ⟨h4, -⟩ | ⟨-, b', hI', rfl⟩⟩ := h4; (exact absurd h4 HR.out); obtain rfl := in_one (fun h => HR.out (.inl h)) HI.out hI'; have HB4 := Lib.hid (below_then HB3.out hb4); clear hb4 hI' z0 z1 z2)
        | (go_at_call 10; refine (num_any _ _).mono ?_; rintro e w5 ⟨rfl, rfl⟩)
        | fail)
      go_ret
      exact ⟨rfl, below_then HB0.out HB4.out⟩
    · clear HF
      go_wp2_with (first
        | (go_at_call 14; (with_reducible refine (CN.out _ HB2.out).mono ?_); intro e w3 h3; obtain ⟨t, T, st, -, -, -, -, -, -, -, -, rfl, hb3, -, -⟩ := new6_good HR.out h3; have HB3 := Lib.hid (below_then HB2.out hb3); have z0 := below_cell hb3 z0; have z1 := below_cell hb3 z1; have z2 := below_cell hb3 z2; clear h3 hb3)
        | (go_at_call 17; (with_reducible refine (CI.out _ HB3.out).mono ?_); intro e w4 h4; obtain ⟨hb4, ⟨h4, -⟩ | ⟨-, b', hI', rfl⟩⟩ := h4; (exact absurd h4 HR.out); obtain rfl := in_one (fun h => HR.out (.inl h)) HI.out hI'; have HB4 := Lib.hid (below_then HB3.out hb4); clear hb4 hI' z0 z1 z2)
        | (go_at_call 10; refine (num_any _ _).mono ?_; rintro e w5 ⟨rfl, rfl⟩)
        | fail)
      go_ret
      exact ⟨rfl, below_then HB0.out HB4.out⟩
    · clear HF
      have hn1 : (0 : Int) < n := by omega
      go_wp2_with (first
        | (go_at_call 14; (with_reducible refine (CN.out _ HB2.out).mono ?_); intro e w3 h3; obtain ⟨t, T, st, -, -, -, -, -, -, -, -, rfl, hb3, -, -⟩ := new6_good HR.out h3; have HB3 := Lib.hid (below_then HB2.out hb3); have z0 := below_cell hb3 z0; have z1 := below_cell hb3 z1; have z2 := below_cell hb3 z2; clear h3 hb3)
        | (go_at_call 17; (with_reducible refine (CI.out _ HB3.out).mono ?_); intro e w4 h4; obtain ⟨hb4, ⟨h4, -⟩ | ⟨-, b', hI', rfl⟩⟩ := h4; (exact absurd h4 HR.out); obtain rfl := in_one (fun h => HR.out (.inl h)) HI.out hI'; have HB4 := Lib.hid (below_then HB3.out hb4); clear hb4 hI' z0 z1 z2)
        | (go_at_call 10; refine (num_any _ _).mono ?_; rintro e w5 ⟨rfl, rfl⟩)
        | fail)
      go_ret
      exact ⟨rfl, below_then HB0.out HB4.out⟩
end Go.Proofs.YtbidpeggdhkahaaGreat

set_option linter.unusedSimpArgs false
set_option linter.unusedVariables false
namespace Go.Proofs.YtbidpeggdhkahaaGreat
open Go.RowKit

section
variable {R : Ky → Int} {G : Gram} {W : ByteArray}
theorem view_two (h : ¬ RefG G) {N N' : Rk} {P P' : Nat → Nat → Nat → Int → Int → Int} (V : View G.rules G.names.length (fun i => btz W i) W.size N P) (V' : View G.rules G.names.length (fun i => btz W i) W.size N' P') :
    ∀ (r : Nat) (x : Rul) (c : Nat) (y : Conj) (pos : Nat) (i j : Int), G.rules[r]? = some x → x.conj[c]? = some y → pos ≤ y.seq.length → 0 ≤ i → i ≤ j → j ≤ W.size → P r c pos i j = P' r c pos i j := by
  obtain ⟨lev, hg⟩ := good_lev h
  have M := mayG hg.may
  have hsy : ∀ (r : Nat) (x : Rul) (c : Nat) (y : Conj) (s : Sym), G.rules[r]? = some x → x.conj[c]? = some y → s ∈ y.seq → s.name < G.names.length ∧ (0 ≤ s.name → lev.getD s.name.toNat 0 + negI y.neg ≤ lev.getD x.head.toNat 0) := fun r x c y s hx hy hs => by
    obtain ⟨q, hq⟩ := List.mem_iff_getElem?.1 hs
    refine ⟨(symB_lt (M.sym r x c y q s hx hy hq) (by have := M.K1; omega)).1, fun h0 => ?_⟩
    exact hg.edge ⟨x.head.toNat, s.name.toNat, y.neg⟩ (mem_edgesOf.2 ⟨x, List.mem_of_getElem? hx, y, List.mem_of_getElem? hy, s, hs, h0, rfl⟩)
  have hV := View.eq V V' (fun _ _ _ => rfl) (fun h => lev.getD h 0) (fun r x hx => (hg.low x.head.toNat (by have := M.head r x hx; omega)).1) hsy G.names.length
  intro r x c y pos i j hx hy hp i0 ij j1
  exact hV.2 r x c y pos i j hx hy hp (fun s hs h0 => by have h1 := (hsy r x c y s hx hy hs).1; have := (hg.low s.name.toNat (by omega)).2; show lev.getD s.name.toNat 0 ≤ _; omega) i0 ij j1
/-- What a tree's rule says, the table says. -/
theorem holds_ok (h : ¬ RefG G) {N : Rk} {P : Nat → Nat → Nat → Int → Int → Int} (V : View G.rules G.names.length (fun i => btz W i) W.size N P) {t : RT} {T st : Rk × Rk} (hG : t.G = G) (hW : t.W = W) (hT : Truth t.G t.W T) (Q : RanksIn t T st) {k : Ky} {r : Nat} {x : Rul} (hx : G.rules[r]? = some x) (i0 : 0 ≤ k.i) (ij : k.i ≤ k.j) (j1 : k.j ≤ W.size)
    (hH : holdsK (rankV G W N P) k r x = true) : holdsR (offG t.G r) st.2 x.conj k.i k.j = true := by
  subst hG hW
  unfold holdsR
  unfold holdsK at hH
  rw [List.all_eq_true] at hH ⊢
  intro c hc
  have := hH c hc
  unfold cOK at this
  unfold holdAt
  cases hy : x.conj[c]? with
  | none => simp
  | some y =>
    rw [hy] at this
    simp only at this ⊢
    have e1 : rankV t.G t.W N P (ckey r c k) = P r c 0 k.i k.j := rankV_seq (q := 0) hx hy (Nat.zero_le _) i0 ij j1
    have e2 := view_two h V hT.view r x c y 0 k.i k.j hx hy (Nat.zero_le _) i0 ij j1
    have e3 := Q.p r c 0 x y k.i k.j ⟨hx, hy, Nat.zero_le _⟩ i0 ij j1
    rw [e1, e2] at this
    rw [Nat.add_zero] at e3 this
    rw [e3]
    exact this
/-- What is open: branches with the keys that are still to come. -/
def OpenOK (R : Ky → Int) (os : List (Brn × List Ky)) : Prop := ∀ o ∈ os, o.1.kids = (o.2.length : Int) ∧ ∀ k ∈ o.2, k.kind = 0 ∧ 0 < R k ∧ o.1.i ≤ k.i ∧ k.j ≤ o.1.j
def dueK (os : List (Brn × List Ky)) : List Ky := os.reverse.flatMap (fun o => o.2)
theorem dueK_snoc (os : List (Brn × List Ky)) (o : Brn × List Ky) : dueK (os ++ [o]) = o.2 ++ dueK os := by simp [dueK]
def brnK (R : Ky → Int) (G : Gram) (W : ByteArray) (k : Ky) : Brn × List Ky := (brnOf R G W k, (beneathB R G W k).2)
theorem open_key (H : RkOK R G W) {os : List (Brn × List Ky)} (O : OpenOK R os) {k : Ky} (hk : k.kind = 0) (h : 0 < R k) : OpenOK R (os ++ [brnK R G W k]) := by
  intro o ho
  rcases List.mem_append.1 ho with ho | ho
  · exact O o ho
  · rw [List.mem_singleton.1 ho]
    obtain ⟨-, -, -, -, -, -, -, -, hall⟩ := beneath_ok H h hk
    refine ⟨rfl, fun a ha => ?_⟩
    obtain ⟨g1, g2, -, g3, g4⟩ := hall a ha
    exact ⟨g1, g2, g3, g4⟩
theorem lies_root (H : RkOK R G W) {k : Ky} (hk : k.kind = 0) (h : 0 < R k) : (treeOf R G W k)[0]? = some (brnOf R G W k) ∧ OpenOK R ([] ++ [brnK R G W k]) ∧ (treeOf R G W k).drop 1 = (dueK ([] ++ [brnK R G W k])).flatMap (treeOf R G W) := by
  rw [treeOf_eq H h hk]
  refine ⟨rfl, open_key H (fun o ho => by simp at ho) hk h, ?_⟩
  rw [dueK_snoc]
  simp [dueK, brnK]
theorem lies_step (H : RkOK R G W) {os : List (Brn × List Ky)} {p : Brn} {k : Ky} {ks : List Ky} {bs : List Brn} {i : Nat} (O : OpenOK R (os ++ [(p, k :: ks)])) (hd : bs.drop i = (dueK (os ++ [(p, k :: ks)])).flatMap (treeOf R G W)) :
    bs[i]? = some (brnOf R G W k) ∧ k.kind = 0 ∧ 0 < R k ∧ p.i ≤ k.i ∧ k.j ≤ p.j ∧ p.kids = (ks.length : Int) + 1 ∧ OpenOK R ((os ++ [({ p with kids := (ks.length : Int) }, ks)]) ++ [brnK R G W k]) ∧ bs.drop (i + 1) = (dueK ((os ++ [({ p with kids := (ks.length : Int) }, ks)]) ++ [brnK R G W k])).flatMap (treeOf R G W) := by
  obtain ⟨o1, o2⟩ := O (p, k :: ks) (by simp)
  obtain ⟨q1, q2, q3, q4⟩ := o2 k List.mem_cons_self
  rw [dueK_snoc] at hd
  have hd : bs.drop i = treeOf R G W k ++ (ks ++ dueK os).flatMap (treeOf R G W) := by rw [hd]; rfl
  rw [treeOf_eq H q2 q1, List.cons_append] at hd
  have e1 : bs[i]? = some (brnOf R G W k) := by
    have := congrArg (fun l => l[0]?) hd
    simpa using this
  have e2 : bs.drop (i + 1) = (beneathB R G W k).2.flatMap (treeOf R G W) ++ (ks ++ dueK os).flatMap (treeOf R G W) := by
    rw [← List.tail_drop, hd]; rfl
  refine ⟨e1, q1, q2, q3, q4, by have o1 : p.kids = ((k :: ks).length : Int) := o1; rw [o1]; simp, open_key H ?_ q1 q2, ?_⟩
  · intro o ho
    rcases List.mem_append.1 ho with ho | ho
    · exact O o (List.mem_append_left _ ho)
    · rw [List.mem_singleton.1 ho]
      exact ⟨rfl, fun a ha => o2 a (List.mem_cons_of_mem _ ha)⟩
  · rw [e2, dueK_snoc, dueK_snoc, ← List.flatMap_append]
    rfl
theorem open_pop {os : List (Brn × List Ky)} {p : Brn} (O : OpenOK R (os ++ [(p, [])])) : OpenOK R os ∧ dueK (os ++ [(p, [])]) = dueK os := ⟨fun o ho => O o (List.mem_append_left _ ho), by rw [dueK_snoc]; rfl⟩
theorem open_none (H : RkOK R G W) {os : List (Brn × List Ky)} {bs : List Brn} {i : Nat} (hd : bs.drop i = (dueK os).flatMap (treeOf R G W)) (hi : i < bs.length) : os ≠ [] := by
  rintro rfl
  have := congrArg List.length hd
  simp [dueK] at this
  omega
theorem open_end (H : RkOK R G W) {os : List (Brn × List Ky)} {bs : List Brn} (O : OpenOK R os) (hd : bs.drop bs.length = (dueK os).flatMap (treeOf R G W)) : ∀ o ∈ os, o.1.kids = 0 := by
  intro o ho
  obtain ⟨o1, o2⟩ := O o ho
  rw [List.drop_length] at hd
  have h0 : o.2 = [] := by
    cases hk : o.2 with
    | nil => rfl
    | cons k ks =>
      exfalso
      obtain ⟨q1, q2, -⟩ := o2 k (by rw [hk]; exact List.mem_cons_self)
      have hm : brnOf R G W k ∈ (dueK os).flatMap (treeOf R G W) := by
        refine List.mem_flatMap.2 ⟨k, List.mem_flatMap.2 ⟨o, List.mem_reverse.2 ho, by rw [hk]; exact List.mem_cons_self⟩, ?_⟩
        rw [treeOf_eq H q2 q1]
        exact List.mem_cons_self
      rw [← hd] at hm
      cases hm
  rw [o1, h0]; rfl
end
/-- A branch's count in a row of the call's own. -/
theorem own_kid {e : TypeId} {base : Nat} {w : World} {g n c : Nat} {xs : List Brn} {b : Brn} (m : Int) (hn : xs.length = n) (h : Own brnRd e base w (.slice (some ⟨g, 0, none⟩) (n + 1) c) (xs ++ [b])) :
    Own brnRd e base (w.setCell ⟨g, n * 5 + 4, none⟩ (.int .i64 m)) (.slice (some ⟨g, 0, none⟩) (n + 1) c) (xs ++ [{ b with kids := m }]) := by
  obtain ⟨css, q1, ⟨r1, r2⟩, q3⟩ := h
  have hl2 : (xs ++ [b]).length = n + 1 := by rw [List.length_append, hn]; rfl
  have hcss : css = (xs ++ [b]).map brnCs := by
    apply List.ext_getElem?
    intro i
    by_cases hi : i < css.length
    · have hx : (xs ++ [b])[i]? = some ((xs ++ [b])[i]'(by omega)) := List.getElem?_eq_getElem (by omega)
      have hk := q3 i _ (css[i]'hi) hx (List.getElem?_eq_getElem hi) w (Upd.refl _ _)
      rw [List.getElem?_map, hx, List.getElem?_eq_getElem hi]
      exact congrArg some hk
    · rw [List.getElem?_eq_none (by omega), List.getElem?_eq_none (by rw [List.length_map]; omega)]
  rcases r2 with ⟨hv, -⟩ | ⟨g', cap, cur, hv, hb, hh, h4, h5, h6, h7⟩
  · injection hv with hv; cases hv
  · injection hv with e1 e2 e3
    injection e1 with e1
    injection e1 with e1
    subst e1
    subst e3
    have fl : ∀ ys : List Brn, ((ys.map brnCs).flatten).length = ys.length * 5 := fun ys => by
      induction ys with
      | nil => rfl
      | cons y ys ih => rw [List.map_cons, List.flatten_cons, List.length_append, ih]; simp [brnCs]; omega
    have hA : css.flatten = (xs.map brnCs).flatten ++ brnCs b := by rw [hcss]; simp
    refine ⟨(xs ++ [{ b with kids := m }]).map brnCs, by simp, ⟨by rw [fl]; rfl, .inr ⟨g, c, cur.setIfInBounds (n * 5 + 4) (.int .i64 m), by rw [List.length_append, hn]; rfl, hb, blk_set hh _ _, by rw [List.length_append, hn]; rw [hl2] at h4; exact h4, h5, by rw [Array.size_setIfInBounds]; exact h6, ?_⟩⟩, fun i y cs hy hc w' _ => ?_⟩
    · have h8 : cur.toList.take ((n + 1) * 5) = (xs.map brnCs).flatten ++ brnCs b := by rw [← hA, ← h7, hl2]; rfl
      have hs : (xs ++ [({ b with kids := m } : Brn)]).length = n + 1 := by rw [List.length_append, hn]; rfl
      rw [hs, Array.toList_setIfInBounds]
      show (cur.toList.set (n * 5 + 4) (.int .i64 m)).take ((n + 1) * 5) = _
      rw [List.take_set, h8, List.set_append_right _ _ (by rw [fl, hn]; omega), fl, hn, show n * 5 + 4 - n * 5 = 4 by omega]
      simp [brnCs]
    · rw [List.getElem?_map, hy] at hc
      injection hc with hc
      exact hc.symm
end Go.Proofs.YtbidpeggdhkahaaGreat

set_option linter.unusedSimpArgs false
set_option linter.unusedVariables false
namespace Go.Proofs.YtbidpeggdhkahaaGreat
open Go.RowKit

theorem due_split {os : List (Brn × List Ky)} (h : dueK os ≠ []) : ∃ (os' : List (Brn × List Ky)) (p : Brn) (k : Ky) (ks : List Ky) (pops : List Brn), os = (os' ++ [(p, k :: ks)]) ++ pops.map (fun b => (b, [])) := by
  obtain ⟨rs, hrs⟩ : ∃ rs, os = List.reverse rs := ⟨os.reverse, by simp⟩
  subst hrs
  induction rs with
  | nil => exact absurd rfl h
  | cons o rs ih =>
    obtain ⟨b, ks⟩ := o
    rw [List.reverse_cons] at h ⊢
    cases ks with
    | cons k ks => exact ⟨rs.reverse, b, k, ks, [], (List.append_nil _).symm⟩
    | nil =>
      rw [dueK_snoc] at h
      obtain ⟨os', p, k, ks, pops, e⟩ := ih h
      exact ⟨os', p, k, ks, pops ++ [b], by rw [e]; simp⟩
theorem due_pops (pops : List Brn) : ∀ os : List (Brn × List Ky), dueK (os ++ pops.map (fun b => (b, []))) = dueK os := by
  induction pops with
  | nil => intro os; simp
  | cons b ps ih =>
    intro os
    rw [List.map_cons, List.append_cons, ih, dueK_snoc]; rfl
/-- The next key, and where it stands. -/
theorem lies_next {R : Ky → Int} {G : Gram} {W : ByteArray} (H : RkOK R G W) {os : List (Brn × List Ky)} {bs : List Brn} {i : Nat} (O : OpenOK R os) (hd : bs.drop i = (dueK os).flatMap (treeOf R G W)) (hi : i < bs.length) :
    ∃ (os' : List (Brn × List Ky)) (p : Brn) (k : Ky) (ks : List Ky) (pops : List Brn), os = (os' ++ [(p, k :: ks)]) ++ pops.map (fun b => (b, [])) ∧ OpenOK R (os' ++ [(p, k :: ks)]) ∧ (∀ b ∈ pops, b.kids = 0) ∧ bs.drop i = (dueK (os' ++ [(p, k :: ks)])).flatMap (treeOf R G W) := by
  have hne : dueK os ≠ [] := by
    intro h
    rw [h] at hd
    have := congrArg List.length hd
    simp at this
    omega
  obtain ⟨os', p, k, ks, pops, e⟩ := due_split hne
  refine ⟨os', p, k, ks, pops, e, fun o ho => O o (by rw [e]; exact List.mem_append_left _ ho), fun b hb => ?_, ?_⟩
  · exact (O (b, []) (by rw [e]; exact List.mem_append_right _ (List.mem_map.2 ⟨b, hb, rfl⟩))).1
  · rw [hd, e, due_pops]
/-- What a branch says. -/
theorem brn_says {R : Ky → Int} {G : Gram} {W : ByteArray} (H : RkOK R G W) {k : Ky} (hk : k.kind = 0) (h : 0 < R k) : ∃ (r : Nat) (x : Rul), G.rules[r]? = some x ∧ x.head = k.name ∧ holdsK R k r x = true ∧ brnOf R G W k = ⟨k.name, r, k.i, k.j, (beneathB R G W k).2.length⟩ := by
  obtain ⟨r, x, hx, hh, hH, -, -, hb, -⟩ := beneath_ok H h hk
  exact ⟨r, x, hx, hh, hH, by rw [brnOf]; simp only [hb]⟩
theorem firstGo_le {R : Ky → Int} {G : Gram} {W : ByteArray} : ∀ (n : Nat) (out : List Brn) (st : List Ky) (o : List Brn), out.length + st.length ≤ 4096 → firstGo R G W n out st = some o → o.length ≤ 4096
  | 0, _, _, _, _, e => by cases e
  | n + 1, out, [], o, h, e => by
    simp only [firstGo, Option.some.injEq] at e
    rw [← e]
    simpa using h
  | n + 1, out, k :: st, o, h, e => by
    unfold firstGo at e
    split at e
    · cases e
    · rename_i h'
      exact firstGo_le n _ _ o (Nat.not_lt.1 h') e
theorem due_len {R : Ky → Int} {G : Gram} {W : ByteArray} (H : RkOK R G W) : ∀ (L : List Ky), (∀ k ∈ L, k.kind = 0 ∧ 0 < R k) → L.length ≤ (L.flatMap (treeOf R G W)).length
  | [], _ => Nat.zero_le _
  | k :: L, h => by
    have h1 := due_len H L (fun q hq => h q (List.mem_cons_of_mem _ hq))
    obtain ⟨q1, q2⟩ := h k List.mem_cons_self
    rw [List.flatMap_cons, List.length_append, treeOf_eq H q2 q1, List.length_cons, List.length_cons]
    omega
/-- As many keys as are still to come are no more than branches. -/
theorem kids_le {R : Ky → Int} {G : Gram} {W : ByteArray} (H : RkOK R G W) {os : List (Brn × List Ky)} {p : Brn} {ks : List Ky} {o : Brn × List Ky} {bs : List Brn} {i : Nat} (O : OpenOK R ((os ++ [(p, ks)]) ++ [o])) (hd : bs.drop i = (dueK ((os ++ [(p, ks)]) ++ [o])).flatMap (treeOf R G W)) : ks.length ≤ bs.length := by
  have h1 := due_len H (dueK ((os ++ [(p, ks)]) ++ [o])) (fun k hk => by
    obtain ⟨o', ho, hk⟩ := List.mem_flatMap.1 hk
    obtain ⟨-, h⟩ := O o' (List.mem_reverse.1 ho)
    obtain ⟨q1, q2, -⟩ := h k hk
    exact ⟨q1, q2⟩)
  rw [← hd, List.length_drop, dueK_snoc, dueK_snoc, List.length_append, List.length_append] at h1
  have h1 : o.2.length + (ks.length + (dueK os).length) ≤ bs.length - i := h1
  omega
theorem lies_first {w w' : World} {G : Gram} {W : ByteArray} {e : Ending} (hR : ¬ (RefG G ∨ 32 < W.size)) (h : FirstPost w G W e w') : Below w.heap.size w w' ∧ ∃ n x A c, e = .returned (.tuple #[.slice A n c, .int .i64 x]) ∧
    ((n = 0 ∧ ∃ b, InB G W b ∧ ((b = false ∧ x = 2201) ∨ (b = true ∧ x = 2202))) ∨ (x = 0 ∧ 1 ≤ n ∧ n ≤ c ∧ c ≤ 9223372036854775807 ∧ n ≤ 4096 ∧ ∃ (N : Rk) (P : Nat → Nat → Nat → Int → Int → Int), View G.rules G.names.length (fun i => btz W i) W.size N P ∧ 0 < rankV G W N P (rootK G W) ∧ n = (treeOf (rankV G W N P) G W (rootK G W)).length ∧ brnRd.C w' A (treeOf (rankV G W N P) G W (rootK G W)))) := by
  obtain ⟨hb, ⟨h, -⟩ | ⟨h1, h2, N, P, V, h⟩⟩ := h
  · exact absurd h hR
  · have hm : mayB G = true := by
      cases h' : mayB G with
      | true => rfl
      | false => exact absurd (.inl h') h1
    have M := mayG hm
    have s0 := M.start0
    have s1 := M.start1
    have er : rankV G W N P (rootK G W) = N G.start.toNat 0 W.size := rankV_name (by omega) (Int.le_refl _) (by omega) (Int.le_refl _) _ rfl (by show G.start = _; omega) rfl rfl
    refine ⟨hb, ?_⟩
    unfold FirstIs at h
    rcases h with ⟨h, he⟩ | ⟨h, -, he⟩ | ⟨h, bs, A, c, hf, he, l1, l2, hC⟩
    · rw [er] at h
      exact ⟨0, 2201, none, 0, he, .inl ⟨rfl, false, ⟨N, P, V, by rw [h]; rfl⟩, .inl ⟨rfl, rfl⟩⟩⟩
    · rw [er] at h
      exact ⟨0, 2202, none, 0, he, .inl ⟨rfl, true, ⟨N, P, V, by rw [decide_eq_true h]⟩, .inr ⟨rfl, rfl⟩⟩⟩
    · have e1 := firstGo_out (rkOK M V) 4098 [] [rootK G W] bs (fun q hq => by rw [List.mem_singleton.1 hq]; exact ⟨rfl, h⟩) hf
      have e2 : bs = treeOf (rankV G W N P) G W (rootK G W) := by rw [e1]; simp
      refine ⟨bs.length, 0, A, c, he, .inr ⟨rfl, ?_, l1, l2, firstGo_le 4098 [] [rootK G W] bs (by simp) hf, N, P, V, h, by rw [e2], by rw [← e2]; exact hC⟩⟩
      rw [e2, treeOf_eq (rkOK M V) h rfl]
      simp
/-- The next branch, and what is open behind it. -/
theorem lies_key {R : Ky → Int} {G : Gram} {W : ByteArray} (H : RkOK R G W) {bs : List Brn} (hbs : bs = treeOf R G W (rootK G W)) (hp : 0 < R (rootK G W)) {os : List (Brn × List Ky)} {i : Nat} (hi : i < bs.length) (O : OpenOK R os) (hz : i = 0 → os = []) (hd : i ≠ 0 → bs.drop i = (dueK os).flatMap (treeOf R G W)) :
    ∃ k, bs[i]? = some (brnOf R G W k) ∧ k.kind = 0 ∧ 0 < R k ∧ ((i = 0 ∧ os = [] ∧ OpenOK R ([] ++ [brnK R G W k]) ∧ bs.drop (i + 1) = (dueK ([] ++ [brnK R G W k])).flatMap (treeOf R G W)) ∨
      (i ≠ 0 ∧ ∃ (os' : List (Brn × List Ky)) (p : Brn) (ks : List Ky) (pops : List Brn), os = (os' ++ [(p, k :: ks)]) ++ pops.map (fun b => (b, [])) ∧ (∀ b ∈ pops, b.kids = 0) ∧ p.i ≤ k.i ∧ k.j ≤ p.j ∧ p.kids = (ks.length : Int) + 1 ∧
        OpenOK R ((os' ++ [({ p with kids := (ks.length : Int) }, ks)]) ++ [brnK R G W k]) ∧ bs.drop (i + 1) = (dueK ((os' ++ [({ p with kids := (ks.length : Int) }, ks)]) ++ [brnK R G W k])).flatMap (treeOf R G W))) := by
  by_cases h0 : i = 0
  · subst h0
    obtain ⟨q1, q2, q3⟩ := lies_root H (k := rootK G W) rfl hp
    rw [← hbs] at q1 q3
    exact ⟨rootK G W, q1, rfl, hp, .inl ⟨rfl, hz rfl, q2, q3⟩⟩
  · obtain ⟨os', p, k, ks, pops, e, O', hpk, hd'⟩ := lies_next H O (hd h0) hi
    obtain ⟨g1, g2, g3, g4, g5, g6, g7, g8⟩ := lies_step H O' hd'
    exact ⟨k, g1, g2, g3, .inr ⟨h0, os', p, ks, pops, e, hpk, g4, g5, g6, g7, g8⟩⟩
def brOb (b : Brn) : Obj := .cells #[.int .i64 b.name, .int .i64 b.rule, .int .i64 b.i, .int .i64 b.j, .int .i64 b.kids] 44 (0, 0)
def InR (wz : World) (g c base : Nat) (xs pops : List Brn) (s9 : Value) (wr : World) : Prop := ∃ q m, m ≤ pops.length ∧ q + 1 = xs.length + m ∧ s9 = .slice (some ⟨g, 0, none⟩) (q + 1) c ∧ Own brnRd 44 base wr (.slice (some ⟨g, 0, none⟩) (q + 1) c) (xs ++ pops.take m) ∧ Below wz.heap.size wz wr
def lenS : Value → Nat | .slice _ n _ => n | _ => 0
theorem br_own {base g n c : Nat} {w : World} {xs : List Brn} (h : Own brnRd 44 base w (.slice (some ⟨g, 0, none⟩) n c) xs) {i : Nat} {x : Brn} (hx : xs[i]? = some x) : BrAt w ⟨g, i * 5, none⟩ x := by
  obtain ⟨A', cc, ev, -, -, hC⟩ := h.shape
  injection ev with e1 e2 e3
  subst e1
  obtain ⟨ad, eA, K⟩ := br_at hC hx
  injection eA with eA
  subst eA
  rw [add_plain, Nat.zero_add] at K
  exact K
def LiR (w3 : World) (R : Ky → Int) (G : Gram) (W : ByteArray) (bs : List Brn) (s9 s10 : Value) (wr : World) : Prop :=
  ∃ (i : Nat) (os : List (Brn × List Ky)), s10 = .int .i64 i ∧ i ≤ bs.length ∧ Own brnRd 44 w3.heap.size wr s9 (os.map (fun o => o.1)) ∧ os.length ≤ i ∧ OpenOK R os ∧ (i = 0 → os = []) ∧ (i ≠ 0 → bs.drop i = (dueK os).flatMap (treeOf R G W)) ∧ Below w3.heap.size w3 wr

set_option maxRecDepth 100000 in
set_option maxHeartbeats 8000000 in
theorem lies_any {w : World} (G : Gram) (W : ByteArray) {A A' : Option Addr} {c c' : Nat} (hWs : W.size < 9223372036854775807) (n1 : G.names.length ≤ c) (n2 : c ≤ 9223372036854775807) (n3 : Rd.str.C w A G.names) (n4 : G.rules.length ≤ c') (n5 : c' ≤ 9223372036854775807) (n6 : rulRd.C w A' G.rules) :
    Calls Tryz.prog 4 #[.agg #[.int .i64 G.start, .slice A G.names.length c, .slice A' G.rules.length c'], .string W] w
      fun e w' => e = .returned (.bool true) ∧ Below w.heap.size w w' := by
  have hb0 : Below w.heap.size w (w.alloc (grO G A A' c c')) := below_alloc' (below_refl w) _
  have B0 := heap_alloc_new w (grO G A A' c c')
  have N3 := n3.mono hb0
  have N6 := n6.mono hb0
  obtain ⟨bg, hbg⟩ : ∃ bg, bg = w.heap.size := ⟨_, rfl⟩
  clear n3 n6
  go_enter Tryz.func4, Tryz.ntmps4
  go_upto_region 1 with fail
  change Code.wp _ _ _ _ (w.alloc (grO G A A' c c'))
  rw [← hbg] at B0 ⊢
  generalize w.alloc (grO G A A' c c') = w0 at hb0 B0 N3 N6 ⊢
  have CF := Lib.hid (show ∀ W1, Below w0.heap.size w0 W1 → Calls Tryz.prog 7 #[.agg #[.int .i64 G.start, .slice A G.names.length c, .slice A' G.rules.length c'], .string W] W1 (FirstPost W1 G W) from fun W1 h1 => first_any G W n1 n2 (N3.mono h1) n4 n5 (N6.mono h1))
  have CN := Lib.hid (show ∀ W1, Below w0.heap.size w0 W1 → Calls Tryz.prog 14 #[.agg #[.int .i64 G.start, .slice A G.names.length c, .slice A' G.rules.length c'], .string W] W1 (NewPost6 W1 G W A') from fun W1 h1 => rnew_any (c := c) (c' := c') hWs (by omega) (by omega) (N3.mono h1) (N6.mono h1))
  have z0 : w0.cell? ⟨bg, 0, none⟩ = some (.int .i64 G.start) := blk_cell B0 0
  have z1 : w0.cell? ⟨bg, 1, none⟩ = some (.slice A G.names.length c) := blk_cell B0 1
  have z2 : w0.cell? ⟨bg, 2, none⟩ = some (.slice A' G.rules.length c') := blk_cell B0 2
  have HB0 := Lib.hid hb0
  have HR0 := Lib.hid N6
  clear hbg hb0 B0 n1 n2 N3 N6 hWs
  by_cases hR : RefG G ∨ 32 < W.size
  · have HR := Lib.hid hR
    clear hR
    go_wp2_with (first
      | (go_at_call 13; (with_reducible refine (awake_any _).mono ?_); rintro e w1 ⟨rfl, hb1⟩; have HB1 := Lib.hid hb1; have z0 := below_cell hb1 z0; have z1 := below_cell hb1 z1; have z2 := below_cell hb1 z2; clear hb1)
      | (go_at_call 7; (with_reducible refine (CF.out _ HB1.out).mono ?_); intro e w2 h2; obtain ⟨hb2, rfl⟩ := first_ref HR.out h2; have HB2 := Lib.hid (below_then HB1.out hb2); have z0 := below_cell hb2 z0; have z1 := below_cell hb2 z1; have z2 := below_cell hb2 z2; clear h2 hb2)
      | (go_at_call 14; (with_reducible refine (CN.out _ HB2.out).mono ?_); intro e w3 h3; obtain ⟨rfl, hb3⟩ := new6_ref HR.out h3; have HB3 := Lib.hid (below_then HB2.out hb3); clear h3 hb3 z0 z1 z2)
      | (go_at_call 10; refine (num_any _ _).mono ?_; rintro e w5 ⟨rfl, rfl⟩)
      | fail)
    go_ret
    exact ⟨rfl, below_then HB0.out HB3.out⟩
  · have HR := Lib.hid hR
    clear hR
    go_upto_region 5 with (first
      | (go_at_call 13; (with_reducible refine (awake_any _).mono ?_); rintro e w1 ⟨rfl, hb1⟩; have HB1 := Lib.hid hb1; have z0 := below_cell hb1 z0; have z1 := below_cell hb1 z1; have z2 := below_cell hb1 z2; clear hb1)
      | (go_at_call 7; (with_reducible refine (CF.out _ HB1.out).mono ?_); intro e w2 h2; obtain ⟨hb2, n, x, A1, c1, rfl, hD⟩ := lies_first HR.out h2; have HD := Lib.hid hD; have HB2 := Lib.hid (below_then HB1.out hb2); have z0 := below_cell hb2 z0; have z1 := below_cell hb2 z1; have z2 := below_cell hb2 z2; clear h2 hb2 hD)
      | (go_at_call 14; (with_reducible refine (CN.out _ HB2.out).mono ?_); intro e w3 h3; obtain ⟨t, T, st, hG, hWt, F, hT, hA, hN, hP, Q, rfl, hb3, -, -⟩ := new6_good HR.out h3; have HB32 := Lib.hid hb3; have HB3 := Lib.hid (below_then HB2.out hb3); have z0 := below_cell hb3 z0; have z1 := below_cell hb3 z1; have z2 := below_cell hb3 z2; clear h3 hb3)
      | fail)
    have HI := Lib.hid (has_in HR.out hG hWt hT Q)
    have HH := Lib.hid (rhas_any hA F hN G.start 0 W.size)
    obtain ⟨rfl, b, hb, hbx⟩ | ⟨rfl, l0, l1, l2, l3, N, P, V, hp, hn, hC⟩ := HD.out
    · have hbb := in_one (fun h => HR.out (.inl h)) hb HI.out
      obtain ⟨rfl, rfl⟩ | ⟨rfl, rfl⟩ := hbx
      all_goals
        rw [← hbb] at HH
        clear HD hb hbb hG hWt hT hA hN hP Q HI F
        go_wp2_with (first
          | (go_at_call 10; refine (num_any _ _).mono ?_; rintro e w5 ⟨rfl, rfl⟩)
          | (go_at_call 15; (with_reducible refine HH.out.mono ?_); rintro e w6 ⟨rfl, hb6⟩; have HB6 := Lib.hid (below_then HB3.out hb6); clear hb6)
          | fail)
        go_ret
        exact ⟨rfl, below_then HB0.out HB6.out⟩
    · obtain ⟨R, hRR⟩ : ∃ R, R = rankV G W N P := ⟨_, rfl⟩
      have HRR := Lib.hid hRR
      have M := t.G
      have HV := Lib.hid V
      have H : RkOK R G W := by
        rw [hRR]
        refine rkOK (mayG ?_) V
        cases h' : mayB G with
        | true => rfl
        | false => exact absurd (.inl (.inl h')) HR.out
      rw [← hRR] at hp hn hC
      obtain ⟨bs, hbs⟩ : ∃ bs, bs = treeOf R G W (rootK G W) := ⟨_, rfl⟩
      rw [← hbs] at hn hC
      have HN := Lib.hid hn
      obtain ⟨q1, q2, q3⟩ := lies_root H rfl hp
      rw [← hbs] at q1 q3
      have HC := Lib.hid (hC.mono HB32.out)
      have HQ := Lib.hid Q
      have HT := Lib.hid hT
      have HA := Lib.hid hA
      have HP := Lib.hid hP
      have HF := Lib.hid F
      have HG := Lib.hid hG
      have HWt := Lib.hid hWt
      have HBS := Lib.hid hbs
      obtain ⟨ad, eA, K0⟩ := br_at HC.out q1
      subst eA
      have HQ1 := Lib.hid q1
      have HQ2 := Lib.hid q2
      have HQ3 := Lib.hid q3
      have V0 := Lib.hid (show w3.cell? ad = some (.int .i64 G.start) by have := K0.c0; rw [Nat.zero_mul, addr_add0] at this; exact this)
      have V2 := Lib.hid (show w3.cell? ⟨ad.block, ad.off + 2, none⟩ = some (.int .i64 0) by have := K0.c2; rw [Nat.zero_mul, addr_add0] at this; exact this)
      have V3 := Lib.hid (show w3.cell? ⟨ad.block, ad.off + 3, none⟩ = some (.int .i64 W.size) by have := K0.c3; rw [Nat.zero_mul, addr_add0] at this; exact this)
      have Z0 := Lib.hid z0
      have Z1 := Lib.hid z1
      have Z2 := Lib.hid z2
      have e8 : ((n : Int) == 0) = false := beq_eq_false_iff_ne.2 (by omega)
      have e3 : (G.start != G.start) = false := by simp
      have e4 : ((W.size : Int) != W.size) = false := by simp
      have e5 : 0 < n := by omega
      clear hn HD HH HI hT hA hN hP Q F V hC hbs hRR q1 q2 q3 K0 z0 z1 z2 hG hWt M
      go_upto_region 7 with (first
        | (go_at_call 10; refine (num_any _ _).mono ?_; rintro e w4 ⟨rfl, rfl⟩)
        | fail)
      refine wp_region_below (by kernel_rfl) (by kernel_rfl) ?_
      repeat (first
        | (refine qv_skip (by rfl) ?_; simp only [Act.put, List.setIfInBounds_toArray, List.set_cons_zero, List.set_cons_succ])
        | (refine qv_val' (by rfl) ?_; apply Exists.intro; refine ⟨fun w5 hC => ?_, ?_⟩; (have qqr0 := below_cell hC V0.out; have qqr1 := below_cell hC V2.out; have qqr2 := below_cell hC V3.out; have qqr3 := below_cell hC Z0.out; go_simp; rfl); simp only [Act.put, List.setIfInBounds_toArray, List.set_cons_zero, List.set_cons_succ]))
      refine qv_nil ?_
      intro w5 hC
      have HB5 := Lib.hid (below_then HB3.out hC)
      have HB5' := Lib.hid hC
      have z2 := below_cell hC Z2.out
      clear hC Z0 Z1 Z2 V0 V2 V3 e8 e3 e4 e5 HQ1 HQ2 HQ3
      go_wp2_with fail
      obtain ⟨wb, hwb⟩ : ∃ wb, wb = w5 := ⟨_, rfl⟩
      rw [← hwb] at HB5 HB5' z2 ⊢
      clear hwb
      go_loopw [9, 10] (fun s9 s10 wr => LiR wb R G W bs s9 s10 wr) (fun _ s10 _ => n - (intOf s10).toNat)
      case atStart => exact ⟨0, [], rfl, Nat.zero_le _, Own.nil _ _ _ _, Nat.le_refl _, fun o ho => by simp at ho, fun _ => rfl, fun h => absurd rfl h, below_refl _⟩
      case round =>
        obtain ⟨i, os, rfl, hi, hO, hol, hOK, hz, hd, hb⟩ := hrel
        obtain ⟨A9, c9, ev, l9, l9', -⟩ := id hO.shape
        rw [List.length_map] at ev l9
        subst ev
        have HO := Lib.hid hO
        have HB := Lib.hid hb
        have z2 := below_cell hb z2
        clear hO hb
        rw [← HN.out] at hi
        by_cases hlt : i < n
        · obtain ⟨k, hbi, hk0, hkp, hD⟩ := lies_key H HBS.out hp (by rw [← HN.out]; exact hlt) hOK hz hd
          obtain ⟨r, x, hx, hh, hH, hbk⟩ := brn_says H hk0 hkp
          have HBK := Lib.hid hbk
          rw [hbk] at hbi
          obtain ⟨sp0, sp1, sp2⟩ := H.span k hkp
          obtain ⟨kids, hkids⟩ : ∃ kids : Nat, kids = (beneathB R G W k).2.length := ⟨_, rfl⟩
          rw [← hkids] at hbi hbk
          have HKD := Lib.hid hkids
          obtain ⟨ad', eA, K⟩ := br_at (HC.out.mono (below_then HB5'.out HB.out)) hbi
          injection eA with eA
          subst eA
          have P0 : wr.cell? (ad.add (i * 5)) = some (.int .i64 k.name) := K.c0
          have P1 := K.c1
          have P2 := K.c2
          have P3 := K.c3
          have P4 := K.c4
          simp only at P1 P2 P3 P4
          have HD' := Lib.hid hD
          have hii : (i : Int) < n := by omega
          have hr := (List.getElem?_eq_some_iff.1 hx).1
          have HHo := Lib.hid (show ∀ w5, Below w4.heap.size w4 w5 → Calls Tryz.prog 16 #[.pointer (some ⟨t.p, 0, none⟩), .int .i64 r, .int .i64 k.i, .int .i64 k.j] w5 fun e w' => e = .returned (.bool true) ∧ Below w5.heap.size w5 w' from fun w5 h5 => by
            have h1 := rholds_any (HA.out.below h5) HF.out (HP.out.below h5) (r := r) (x := x) (by rw [HG.out]; exact hx) (i := k.i) (j := k.j) sp0 sp1 (by rw [HWt.out]; exact sp2)
            have h2 := holds_ok (fun h => HR.out (.inl h)) HV.out HG.out HWt.out HT.out HQ.out hx sp0 sp1 sp2 (by rw [← HRR.out]; exact hH)
            rw [h2] at h1
            exact h1)
          obtain ⟨ad2, A2, c2, eA, -, h0, -, -, -, -⟩ := rul_at (HR0.out.mono (below_then HB5.out HB.out)) hx
          subst eA
          have h0 : wr.cell? (ad2.add (r * 2)) = some (.int .i64 k.name) := hh ▸ h0
          clear hD hbi hH hbk hkids K hx hOK hz hd hh
          go_upto_region 14 with fail
          change Code.wp _ _ _ _ (wr.alloc (brOb ⟨k.name, r, k.i, k.j, kids⟩))
          have hba : Below wr.heap.size wr (wr.alloc (brOb ⟨k.name, r, k.i, k.j, kids⟩)) := below_alloc' (below_refl wr) _
          have B1 := heap_alloc_new wr (brOb ⟨k.name, r, k.i, k.j, kids⟩)
          obtain ⟨bb, hbb⟩ : ∃ b, b = wr.heap.size := ⟨_, rfl⟩
          rw [← hbb] at B1 ⊢
          generalize wr.alloc (brOb ⟨k.name, r, k.i, k.j, kids⟩) = wa at hba B1 ⊢
          have HOA := Lib.hid (HO.out.below hba)
          have HBA := Lib.hid (below_then HB.out hba)
          have HXB := Lib.hid B1
          have Z2 := Lib.hid (below_cell hba z2)
          have H0 := Lib.hid (below_cell hba h0)
          have Y0 := Lib.hid (show wa.cell? ⟨bb, 0, none⟩ = some (.int .i64 k.name) from blk_cell B1 0)
          have Y1 := Lib.hid (show wa.cell? ⟨bb, 1, none⟩ = some (.int .i64 r) from blk_cell B1 1)
          have Y2 := Lib.hid (show wa.cell? ⟨bb, 2, none⟩ = some (.int .i64 k.i) from blk_cell B1 2)
          have Y3 := Lib.hid (show wa.cell? ⟨bb, 3, none⟩ = some (.int .i64 k.j) from blk_cell B1 3)
          have HHA := Lib.hid (below_then HB5'.out HBA.out)
          have d1 : decide (G.rules.length ≤ r) = false := by simp; omega
          have d2 : (k.name != k.name) = false := by simp
          have d3 : r < G.rules.length := hr
          have HGB := Lib.hid (show ∀ b, (Value.slice A9 os.length c9).ownBlock = some b → b < bb from fun b hb => by rw [hbb]; exact (HO.out.base hb).2)
          clear hba B1 z2 h0 P0 P1 P2 P3 P4 hbb hr
          refine wp_region_below (by kernel_rfl) (by kernel_rfl) ?_
          repeat (first
            | (refine qv_skip (by rfl) ?_; simp only [Act.put, List.setIfInBounds_toArray, List.set_cons_zero, List.set_cons_succ])
            | (refine qv_val' (by rfl) ?_; apply Exists.intro; refine ⟨fun w5 hC => ?_, ?_⟩; (have qqr0 := below_cell hC Y0.out; have qqr1 := below_cell hC Y1.out; have qqr2 := below_cell hC Y2.out; have qqr3 := below_cell hC Y3.out; have qqr4 := below_cell hC Z2.out; have qqr5 := below_cell hC H0.out; go_simp; rfl); simp only [Act.put, List.setIfInBounds_toArray, List.set_cons_zero, List.set_cons_succ])
            | (refine qv_call' (by rfl) ?_; apply Exists.intro; apply Exists.intro; apply Exists.intro; refine ⟨fun w5 hC => ?_, fun w5 hC => ?_, ?_⟩; (go_simp; first | rfl | exact ⟨rfl, rfl⟩); (first | (go_at_call 16; exact calls_in hC (HHo.out w5 (below_then HHA.out hC)))); simp only [Act.put, List.setIfInBounds_toArray, List.set_cons_zero, List.set_cons_succ]))
          refine qv_nil ?_
          intro w5 hC
          have HB6 := Lib.hid (below_then HBA.out hC)
          have HO6 := Lib.hid (HOA.out.below hC)
          have HX6 := Lib.hid (blk_below HXB.out hC)
          obtain ⟨w6, hw6⟩ : ∃ w6, w6 = w5 := ⟨_, rfl⟩
          clear hC Y0 Y1 Y2 Y3 Z2 H0 d1 d2 d3 HHo HO HOA HHA HXB HBA
          rw [← hw6] at HB6 HO6 HX6 ⊢
          clear hw6
          have y0 : w6.cell? ⟨bb, 0, none⟩ = some (.int .i64 k.name) := blk_cell HX6.out 0
          have y1 : w6.cell? ⟨bb, 1, none⟩ = some (.int .i64 r) := blk_cell HX6.out 1
          have y2 : w6.cell? ⟨bb, 2, none⟩ = some (.int .i64 k.i) := blk_cell HX6.out 2
          have y3 : w6.cell? ⟨bb, 3, none⟩ = some (.int .i64 k.j) := blk_cell HX6.out 3
          have y4 : w6.cell? ⟨bb, 4, none⟩ = some (.int .i64 kids) := blk_cell HX6.out 4
          rcases HD'.out with ⟨hi0, hos, o1, d1⟩ | ⟨hi0, os', p, ks, pops, hos, hpk, g1, g2, g3, o1, d1⟩
          · subst hi0
            subst hos
            have HO7 := Lib.hid (show Own brnRd 44 wb.heap.size w6 (.slice A9 0 c9) [] from HO6.out)
            have O1 := Lib.hid o1
            have D1 := Lib.hid d1
            clear o1 d1 HD' HO6 HGB
            go_wp2_with (first
              | (at_builtin; refine wpList_append_one (d := brnRd) rfl (base := wb.heap.size) _ _ 27 44 _ 40 (by rfl) Tryz.underlying27 infoBrn (by rfl) (by show 0 < 5; decide) (v := .slice A9 0 c9) (xs := ([] : List Brn)) (by first | rfl | exact HO7L.out) (HO7.out.below (below_alloc' (below_refl _) _)) ⟨k.name, r, k.i, k.j, kids⟩ #[.int .i64 k.name, .int .i64 r, .int .i64 k.i, .int .i64 k.j, .int .i64 kids] (fun _ _ => rfl) (b := w6.heap.size) (c := 1) (by rfl) (by exact heap_alloc_new w6 (brOb ⟨k.name, r, k.i, k.j, kids⟩)) (by first | (simp; done) | (skip; omega)) (by decide) (by have := HB6.out.size; rw [World.size_alloc]; omega) ?_; intro v7 w7 o7 g7 t7; have hba2 : Below w6.heap.size w6 (w6.alloc (brOb ⟨k.name, r, k.i, k.j, kids⟩)) := below_alloc' (below_refl _) _; have HB7 := Lib.hid ((below_then HB6.out hba2).grown g7 (below_then HB6.out hba2).size (fun b hb => (HO7.out.base hb).1)); have O7 := Lib.hid o7; obtain ⟨A7, c7, ev, l7, l7', -⟩ := id o7.shape; subst ev; clear o7 g7 t7 hba2)
              | fail)
            go_roundw
            case rel => exact ⟨1, [] ++ [brnK R G W k], by go_num, by rw [← HN.out]; omega, by show Own brnRd 44 wb.heap.size w7 _ [brnOf R G W k]; rw [HBK.out, ← HKD.out]; exact O7.out, Nat.le_refl _, O1.out, fun h => absurd h (by decide), fun _ => D1.out, HB7.out⟩
            case measure => simp [intOf]; omega
          · obtain ⟨q0, hq0⟩ : ∃ q0, q0 = os'.length + pops.length := ⟨_, rfl⟩
            have hlen : os.length = q0 + 1 := by rw [hos]; simp; omega
            obtain ⟨xs, hxs⟩ : ∃ xs, xs = os'.map (fun o => o.1) ++ [p] := ⟨_, rfl⟩
            have hmap : os.map (fun o => o.1) = xs ++ pops := by rw [hos, hxs]; simp [Function.comp_def]
            have hxl : xs.length = os'.length + 1 := by rw [hxs]; simp
            have hxp : xs[os'.length]? = some p := by rw [hxs, List.getElem?_append_right (by simp)]; simp
            have HO8 := HO6.out
            rw [hlen, hmap] at HO8
            obtain ⟨g, cap, ev, hg1, -, -, -⟩ := HO8.form (by rw [List.length_append]; omega)
            injection ev with ev1 ev2 ev3
            subst ev1
            have hgb : g < bb := HGB.out g rfl
            rw [hlen] at hol l9 ⊢
            have HO8 := Lib.hid HO8
            have HOL := Lib.hid hol
            have O1 := Lib.hid o1
            have D1 := Lib.hid d1
            have HPK := Lib.hid hpk
            have HXS := Lib.hid hxs
            have HXL := Lib.hid hxl
            have HXP := Lib.hid hxp
            have HOS := Lib.hid hq0
            have hi1 : 0 < i := by omega
            clear hos hmap hlen ev2 ev3 o1 d1 hpk hxs hxl hxp hq0 HD' HO6 HGB hi0 hol
            go_wp2_with fail
            go_loopw [9] (fun s9 wr => InR w6 g c9 wb.heap.size xs pops s9 wr) (fun s9 _ => lenS s9)
            case atStart => exact ⟨q0, pops.length, Nat.le_refl _, by rw [HXL.out, HOS.out]; omega, rfl, by rw [List.take_length]; exact HO8.out, below_refl _⟩
            case round =>
              obtain ⟨q, m, hm, hq, rfl, hO, hb⟩ := hrel
              obtain ⟨_, _, ev, lc, lc', -⟩ := id hO.shape
              have hql : q + 1 ≤ c9 := by
                injection ev with _ e2 e3
                rw [← e2, ← e3] at lc
                exact lc
              have ew : IntKind.i64.wrap (q : Int) = q := IntWalk.i64_in _ (by omega)
              have ew2 : IntKind.i64.wrap ((q : Int) + 1 - 1) = q := by rw [Int.add_sub_cancel]; exact ew
              clear ev lc lc'
              have HB9 := Lib.hid (below_then HB6.out hb)
              have HO9 := Lib.hid hO
              cases m with
              | succ m =>
                obtain ⟨b, hpb⟩ : ∃ b, pops[m]? = some b := ⟨_, List.getElem?_eq_getElem (by omega)⟩
                have hbk := HPK.out b (List.mem_of_getElem? hpb)
                have htk : pops.take (m + 1) = pops.take m ++ [b] := by rw [List.take_add_one, hpb]; rfl
                rw [htk, ← List.append_assoc] at hO
                have hl2 : (xs ++ pops.take m).length = q := by rw [List.length_append, List.length_take]; omega
                have K := br_own hO (i := q) (x := b) (by rw [List.getElem?_append_right (by omega), hl2]; simp)
                have P4 : wr.cell? ⟨g, q * 5 + 4, none⟩ = some (.int .i64 0) := hbk ▸ K.c4
                obtain ⟨q', rfl⟩ : ∃ q', q = q' + 1 := ⟨q - 1, by have := HXL.out; omega⟩
                have HT := Lib.hid (own_take hl2 hO)
                have HBB := Lib.hid hb
                have HQ2 := Lib.hid (show q' + 1 = xs.length + m by omega)
                clear hO hb K htk hbk hpb hl2 hq
                go_wp2_with fail
                go_roundw
                case rel => exact ⟨q', m, by omega, HQ2.out, rfl, HT.out, HBB.out⟩
                case measure => simp [lenS]
              | zero =>
                have hq2 : q = os'.length := by have := HXL.out; omega
                have hO2 := hO
                rw [List.take_zero, List.append_nil] at hO2
                have K := br_own hO2 (i := q) (x := p) (by rw [hq2]; exact HXP.out)
                have P0 : wr.cell? ⟨g, q * 5, none⟩ = some (.int .i64 p.name) := K.c0
                have P1 : wr.cell? ⟨g, q * 5 + 1, none⟩ = some (.int .i64 p.rule) := K.c1
                have P2 : wr.cell? ⟨g, q * 5 + 2, none⟩ = some (.int .i64 p.i) := K.c2
                have P3 : wr.cell? ⟨g, q * 5 + 3, none⟩ = some (.int .i64 p.j) := K.c3
                have P4 : wr.cell? ⟨g, q * 5 + 4, none⟩ = some (.int .i64 ((ks.length : Int) + 1)) := g3 ▸ K.c4
                have b3 : ((ks.length : Int) + 1 == 0) = false := beq_eq_false_iff_ne.2 (by omega)
                have b4 : ¬ ((ks.length : Int) + 1 = 0) := by omega
                have b5 : ¬ (ks.length + 1 = 0) := by omega
                have HQ2 := Lib.hid hq2
                have HO2 := Lib.hid hO2
                have HX9 := Lib.hid (blk_below HX6.out hb)
                clear hO hO2 hb K hq2 hq y0 y1 y2 y3 y4
                go_upto_region 22 with fail
                have hba3 : Below wr.heap.size wr (wr.alloc (brOb ⟨p.name, p.rule, p.i, p.j, (ks.length : Int) + 1⟩)) := below_alloc' (below_refl wr) _
                change Code.wp _ _ _ _ (wr.alloc (brOb ⟨p.name, p.rule, p.i, p.j, (ks.length : Int) + 1⟩))
                have B2 := heap_alloc_new wr (brOb ⟨p.name, p.rule, p.i, p.j, (ks.length : Int) + 1⟩)
                obtain ⟨pb, hpb⟩ : ∃ b, b = wr.heap.size := ⟨_, rfl⟩
                rw [← hpb] at B2 ⊢
                have HO3 := Lib.hid (HO2.out.below hba3)
                have HB3x := Lib.hid (below_then HB9.out hba3)
                have P4 := below_cell hba3 P4
                have HXa := Lib.hid (blk_below HX9.out hba3)
                generalize wr.alloc (brOb ⟨p.name, p.rule, p.i, p.j, (ks.length : Int) + 1⟩) = w9 at hba3 B2 HO3 HB3x P4 HXa ⊢
                have y2 : w9.cell? ⟨bb, 2, none⟩ = some (.int .i64 k.i) := blk_cell HXa.out 2
                have y3 : w9.cell? ⟨bb, 3, none⟩ = some (.int .i64 k.j) := blk_cell HXa.out 3
                have p2 : w9.cell? ⟨pb, 2, none⟩ = some (.int .i64 p.i) := blk_cell B2 2
                have p3 : w9.cell? ⟨pb, 3, none⟩ = some (.int .i64 p.j) := blk_cell B2 3
                have b6 : ¬ (k.i < p.i) := by omega
                have b7 : ¬ (p.j < k.j) := by omega
                have hkl := kids_le H O1.out D1.out
                rw [← HN.out] at hkl
                have ew3 : IntKind.i64.wrap (ks.length : Int) = ks.length := IntWalk.i64_in _ (by omega)
                have ew4 : IntKind.i64.wrap ((ks.length : Int) + 1 - 1) = ks.length := by rw [Int.add_sub_cancel]; exact ew3
                have hgne : ¬ (bb = g) := by omega
                obtain ⟨cur, hcur⟩ := own_block_type HO3.out (b := g) rfl
                have fz : w9.frozen? ⟨g, q * 5 + 4, none⟩ = false := blk_frozen hcur _
                clear hcur
                clear hba3 B2 hpb P0 P1 P2 P3 hkl
                go_upto_region 25 with fail
                change Code.wp _ _ _ _ (w9.setCell ⟨g, q * 5 + 4, none⟩ (.int .i64 ks.length))
                have hu : Upd (fun b => b = g) w9 (w9.setCell ⟨g, q * 5 + 4, none⟩ (.int .i64 ks.length)) := (Upd.refl (fun b => b = g) w9).setCell (p := ⟨g, q * 5 + 4, none⟩) rfl _
                have HOZ := Lib.hid (own_kid (e := 44) (ks.length : Int) (xs := os'.map (fun o => o.1)) (b := p) (n := q) (by rw [List.length_map]; exact HQ2.out.symm) (by rw [← HXS.out]; exact HO3.out))
                have HBZ := Lib.hid (HB3x.out.trans (hu.below HB3x.out.size (fun b hb => by rw [hb]; exact hg1)))
                have HXz := Lib.hid (show (w9.setCell ⟨g, q * 5 + 4, none⟩ (.int .i64 ks.length)).heap[bb]? = _ from (hu.block bb (blk_lt HXa.out) hgne).trans HXa.out)
                generalize w9.setCell ⟨g, q * 5 + 4, none⟩ (.int .i64 ks.length) = wz at hu HOZ HBZ HXz ⊢
                have HOZL := Lib.hid (show (os'.map (fun o => o.1) ++ [({ p with kids := (ks.length : Int) } : Brn)]).length = q + 1 by rw [List.length_append, List.length_map, HQ2.out]; rfl)
                have x0 : wz.cell? ⟨bb, 0, none⟩ = some (.int .i64 k.name) := blk_cell HXz.out 0
                have x1 : wz.cell? ⟨bb, 1, none⟩ = some (.int .i64 r) := blk_cell HXz.out 1
                have x2 : wz.cell? ⟨bb, 2, none⟩ = some (.int .i64 k.i) := blk_cell HXz.out 2
                have x3 : wz.cell? ⟨bb, 3, none⟩ = some (.int .i64 k.j) := blk_cell HXz.out 3
                have x4 : wz.cell? ⟨bb, 4, none⟩ = some (.int .i64 kids) := blk_cell HXz.out 4
                have HQL := Lib.hid (show q + 1 ≤ i by have := HOL.out; have := HOS.out; have := HQ2.out; omega)
                clear hu fz y2 y3 p2 p3 P4 b6 b7 ew ew2 ew3 ew4
                go_wp2_with (first
                  | (at_builtin; refine wpList_append_one (d := brnRd) rfl (base := wb.heap.size) _ _ 27 44 _ 40 (by rfl) Tryz.underlying27 infoBrn (by rfl) (by show 0 < 5; decide) (v := .slice (some ⟨g, 0, none⟩) (q + 1) c9) (xs := (os'.map (fun o => o.1) ++ [({ p with kids := (ks.length : Int) } : Brn)])) (by first | rfl | exact HOZL.out) (HOZ.out.below (below_alloc' (below_refl _) _)) ⟨k.name, r, k.i, k.j, kids⟩ #[.int .i64 k.name, .int .i64 r, .int .i64 k.i, .int .i64 k.j, .int .i64 kids] (fun _ _ => rfl) (b := wz.heap.size) (c := 1) (by rfl) (by exact heap_alloc_new wz (brOb ⟨k.name, r, k.i, k.j, kids⟩)) (by first | (simp; done) | (rw [HOZL.out]; have := HQL.out; omega)) (by decide) (by have := HBZ.out.size; rw [World.size_alloc]; omega) ?_; intro v7 w7 o7 g7 t7; have hba2 : Below wz.heap.size wz (wz.alloc (brOb ⟨k.name, r, k.i, k.j, kids⟩)) := below_alloc' (below_refl _) _; have HB7 := Lib.hid ((below_then HBZ.out hba2).grown g7 (below_then HBZ.out hba2).size (fun b hb => (HOZ.out.base hb).1)); have O7 := Lib.hid o7; obtain ⟨A7, c7, ev, l7, l7', -⟩ := id o7.shape; subst ev; clear o7 g7 t7 hba2)
                  | fail)
                go_roundw
                case rel =>
                  refine ⟨i + 1, (os' ++ [({ p with kids := (ks.length : Int) }, ks)]) ++ [brnK R G W k], by go_num, by rw [← HN.out]; omega, ?_, ?_, O1.out, fun h => absurd h (Nat.succ_ne_zero _), fun _ => D1.out, HB7.out⟩
                  · have e : List.map (fun o => o.1) ((os' ++ [(({ p with kids := (ks.length : Int) } : Brn), ks)]) ++ [brnK R G W k]) = (os'.map (fun o => o.1) ++ [({ p with kids := (ks.length : Int) } : Brn)]) ++ [brnOf R G W k] := by simp [brnK]
                    rw [e, HBK.out, ← HKD.out]
                    have h7 := O7.out
                    simp only [List.length_append, List.length_map, List.length_cons, List.length_nil] at h7
                    exact h7
                  · have := HQL.out; have := HQ2.out
                    simp only [List.length_append, List.length_cons, List.length_nil]
                    omega
                case measure => simp [intOf]; omega
        · have hin : i = bs.length := by rw [← HN.out]; omega
          have hk0 := open_end H hOK (by rw [← hin]; exact hd (by omega))
          have HK0 := Lib.hid (show ∀ b ∈ os.map (fun o => o.1), b.kids = 0 from fun b hb => by obtain ⟨o, ho, rfl⟩ := List.mem_map.1 hb; exact hk0 o ho)
          have b1 : ¬ ((i : Int) < n) := by omega
          have b2 : ¬ (i < n) := hlt
          clear hd hOK hz hin hk0 hlt
          go_wp2_with fail
          obtain ⟨wo, hwo⟩ : ∃ wo, wo = wr := ⟨_, rfl⟩
          rw [← hwo] at HO HB ⊢
          clear hwo
          go_loopw [13] (fun cnt wx => ToNb wo os.length cnt wx) (fun cnt _ => os.length - (intOf cnt).toNat)
          case atStart => exact ⟨0, rfl, Nat.zero_le _, below_refl _⟩
          case round =>
            obtain ⟨m, rfl, hm, hb⟩ := hrel
            obtain ⟨A', cc, ev, lc, lc', hC9⟩ := (HO.out.below hb).shape
            injection ev with e1 e2 e3
            subst e1
            have HB' := Lib.hid hb
            clear hb e2 e3 lc lc'
            by_cases hlt : m < os.length
            · obtain ⟨b, hx⟩ : ∃ b, (os.map (fun o => o.1))[m]? = some b := ⟨_, List.getElem?_eq_getElem (by rw [List.length_map]; exact hlt)⟩
              obtain ⟨ad9, eA, K⟩ := br_at hC9 hx
              subst eA
              have P4 := K.c4
              rw [HK0.out b (List.mem_of_getElem? hx)] at P4
              have b3 : (m : Int) < os.length := by omega
              clear K hx hC9
              go_wp2_with fail
              go_roundw
              case rel => exact ⟨m + 1, by go_num, by omega, HB'.out⟩
              case measure => simp [intOf]; omega
            · have b3 : ¬ ((m : Int) < os.length) := by omega
              clear hC9
              go_wp2_with fail
              go_ret
              exact ⟨rfl, below_then HB0.out (below_then HB5.out (below_then HB.out HB'.out))⟩
end Go.Proofs.YtbidpeggdhkahaaGreat
