/-
  C2: templelaw11.one.
-/
import Derived.Test.YtmccdakmdcdbeaaC1
import Derived.Test.YtmccdakmdcdbeaaK1
set_option linter.unusedSimpArgs false
set_option linter.unusedVariables false
namespace Go.Proofs.Ytmccdakmdcdbeaa
open Go.RowKit

def n1w : ByteArray := ⟨#[110, 49, 119]⟩
/-- A grammar with a name more, whose one rule is given. -/
def oneG (G : Gram) (cs : List Conj) : Gram := ⟨G.start, G.names ++ [n1w], G.rules ++ [⟨G.names.length, cs⟩]⟩
/-- A kind read in whatever good world: so it hangs on no world. -/
def freeRd {α : Type} (d : Rd α) (Good : World → Prop) : Rd α where
  sz := d.sz
  K _ x cs := cs.length = d.sz ∧ (∀ u ∈ cs, u.oneCell' = true) ∧ ∀ w', Good w' → d.K w' x cs
  len h := h.1
  one h := h.2.1
  mono _ h := h
theorem flat_free {α : Type} (d : Rd α) (Good : World → Prop) : Flat (freeRd d Good) := fun _ _ _ _ h => h
theorem own_free {α : Type} {d : Rd α} {e : TypeId} {base : Nat} {w : World} {v : Value} {xs : List α} {Good : World → Prop} (h : Own d e base w v xs) (hg : ∀ w', Good w' → Upd (fun b => b < base ∨ v.ownBlock = some b) w w') : Own (freeRd d Good) e 0 w v xs := by
  obtain ⟨css, h1, ⟨h2, h3⟩, h4⟩ := h
  refine ⟨css, h1, ⟨h2, ?_⟩, fun i x cs hx hc w' _ => ⟨d.len (h4 i x cs hx hc w (Upd.refl _ _)), d.one (h4 i x cs hx hc w (Upd.refl _ _)), fun w'' hw => h4 i x cs hx hc w'' (hg w'' hw)⟩⟩
  rcases h3 with h3 | ⟨g, cap, cur, a, b, c⟩
  · exact .inl h3
  · exact .inr ⟨g, cap, cur, a, Nat.zero_le _, c⟩
theorem C_free {α : Type} {d : Rd α} {w : World} {A : Option Addr} {xs : List α} {Good : World → Prop} (h : (freeRd d Good).C w A xs) (hg : Good w) : d.C w A xs := fun i x hx => by
  obtain ⟨ad, cs, a, b, c⟩ := h i x hx
  exact ⟨ad, cs, a, b.2.2 w hg, c⟩
set_option maxRecDepth 100000 in
set_option maxHeartbeats 2000000 in
theorem one_any {w : World} (G : Gram) (cs : List Conj) {A A' Ac : Option Addr} {c c' cc : Nat} (n1 : G.names.length ≤ c) (n2 : c ≤ 9223372036854775807) (n3 : Rd.str.C w A G.names) (n4 : G.rules.length ≤ c') (n5 : c' ≤ 9223372036854775807) (n6 : rulRd.C w A' G.rules)
    (hG : Holdable G) (hn : G.names.length ≤ 1000) (hr : G.rules.length ≤ 1000) (m1 : cs.length ≤ cc) (m2 : cc ≤ 9223372036854775807) (m3 : conjRd.C w Ac cs) :
    Calls Try.prog 23 #[.slice Ac cs.length cc, .agg #[.int .i64 G.start, .slice A G.names.length c, .slice A' G.rules.length c']] w (GramPost w (oneG G cs)) := by
  go_enter Try.func23, Try.ntmps23
  go_wp2_with fail
  have b0 := heap_alloc2_old w (Obj.cells #[Value.int IntKind.i64 G.start, Value.slice A G.names.length c, Value.slice A' G.rules.length c'] 25) (Obj.cells #[Value.int IntKind.i64 0, Value.slice none 0 0, Value.slice none 0 0] 25)
  have b2 := heap_alloc2_new w (Obj.cells #[Value.int IntKind.i64 G.start, Value.slice A G.names.length c, Value.slice A' G.rules.length c'] 25) (Obj.cells #[Value.int IntKind.i64 0, Value.slice none 0 0, Value.slice none 0 0] 25)
  have hb0 : Below w.heap.size w ((w.alloc (Obj.cells #[Value.int IntKind.i64 G.start, Value.slice A G.names.length c, Value.slice A' G.rules.length c'] 25)).alloc (Obj.cells #[Value.int IntKind.i64 0, Value.slice none 0 0, Value.slice none 0 0] 25)) := below_alloc' (below_alloc' (below_refl _) _) _
  generalize (w.alloc (Obj.cells #[Value.int IntKind.i64 G.start, Value.slice A G.names.length c, Value.slice A' G.rules.length c'] 25)).alloc (Obj.cells #[Value.int IntKind.i64 0, Value.slice none 0 0, Value.slice none 0 0] 25) = w0 at b0 b2 hb0 ⊢
  have N3 := Lib.hid (n3.mono hb0)
  have N6 := Lib.hid (n6.mono hb0)
  have M3 := Lib.hid m3
  have HB0 := Lib.hid hb0
  have BB0 := Lib.hid b0
  have BB2 := Lib.hid b2
  have hs0 : w.heap.size + 1 < w0.heap.size := blk_lt b2
  clear n3 n6 m3 hb0 b0 b2
  refine (copyG_any G n1 n2 N3.out n4 n5 N6.out hG).mono ?_
  rintro e w1 ⟨vn, vr, base, B, rfl, on, or, h1, h2, h3, h4, hb1⟩
  obtain ⟨An, kn, rfl, -, -, -⟩ := on.shape
  obtain ⟨Ar, kr, rfl, -, -, -⟩ := or.shape
  have ON := Lib.hid on
  have OR := Lib.hid or
  have HB1 := Lib.hid hb1
  have B1 := Lib.hid (blk_below BB0.out hb1)
  have B2 := Lib.hid (blk_below BB2.out hb1)
  have H4 := Lib.hid h4
  clear on or hb1 h4
  have hl1 := blk_lt B1.out
  have hl2 := blk_lt B2.out
  have hne1 : (w1.heap.size = w.heap.size) = False := by simp; omega
  have hne2 : (w1.heap.size = w.heap.size + 1) = False := by simp; omega
  have hne3 : (w.heap.size = w1.heap.size) = False := by simp; omega
  have hne4 : (w.heap.size + 1 = w1.heap.size) = False := by simp; omega
  obtain ⟨Good, hGd⟩ : ∃ Good : World → Prop, Good = fun w' => Below w.heap.size w w' ∧ Upd (fun b => b < B ∨ (Value.slice Ar G.rules.length kr).ownBlock = some b) w1 w' := ⟨_, rfl⟩
  have OF := Lib.hid (own_free (Good := Good) OR.out (fun w' h => by rw [hGd] at h; exact h.2))
  have hnew : ∀ w', Good w' → rulRd.K w' ⟨(G.names.length : Int), cs⟩ [.int .i64 G.names.length, .slice Ac cs.length cc] := fun w' h => by
    rw [hGd] at h
    exact rulRd_mk (x := ⟨(G.names.length : Int), cs⟩) m1 m2 (M3.out.mono h.1)
  have HN := Lib.hid hnew
  have HGD := Lib.hid hGd
  have hrb : Hid (∀ b, (Value.slice Ar G.rules.length kr).ownBlock = some b → B ≤ b ∧ b < w1.heap.size) := fun b hb => OR.out.base hb
  clear hnew hGd
  go_wp2_with (first
    | (at_builtin; refine wpList_append_one (d := Rd.str) rfl (base := base) (.tmp 9) (.tmp 10) 22 9 _ 16 (by rfl) Try.underlying22 infoStr (by rfl) (by decide) (v := .slice An G.names.length kn) (xs := G.names) (by rfl) (ON.out.below (below_alloc' (below_alloc' (below_refl _) _) _)) n1w #[.string n1w] (fun _ _ => rfl) (b := w1.heap.size + 1) (c := 1) (by rfl) (heap_alloc2_new w1 _ _) (by omega) (by decide) (by simp; omega) ?_; intro v5 w5 o5 g5 t5; obtain ⟨A5, k5, rfl, -, -, -⟩ := o5.shape; have hq : ∀ k, B ≤ k → some k ≠ (Value.slice An G.names.length kn).ownBlock := (fun k hk e => by have := H4.out k e.symm; omega); have q5 : w5.heap[w1.heap.size]? = some (.cells #[.int .i64 G.start, .slice An G.names.length kn, .slice Ar G.rules.length kr] 25 (0, 0)) := blk_grown (heap_alloc2_old w1 _ _) g5 (hq _ (by omega)); have q1 := blk_grown (blk_below B1.out (below_alloc' (below_alloc' (below_refl _) _) _)) g5 (fun e => by have := (ON.out.base e.symm).1; omega); have q2 := blk_grown (blk_below B2.out (below_alloc' (below_alloc' (below_refl _) _) _)) g5 (fun e => by have := (ON.out.base e.symm).1; omega); have U5 : Hid (Upd (fun b => (Value.slice An G.names.length kn).ownBlock = some b) w1 w5) := ((Upd.of_below (below_alloc' (below_alloc' (below_refl _) _) _)).trans (Upd.of_grown g5)); have u0 := blk_cell q5 0; have u1 := blk_cell q5 1; have u2 := blk_cell q5 2; have f1 := blk_frozen q5 1; have x1 := blk_cell q1 1; simp at u0 u1 u2 x1; have hs5 : w1.heap.size + 2 ≤ w5.heap.size := (by have := g5.size; simp at this; omega); have O5 := Lib.hid o5; have Q5 := Lib.hid q5; have Q1 := Lib.hid q1; have Q2 := Lib.hid q2; have HB5 : Hid (Below w.heap.size w w5) := (below_grown (below_then HB0.out (below_then HB1.out (below_alloc' (below_alloc' (below_refl _) _) _))) g5 (fun k hk => by have := (ON.out.base hk).1; omega)); have T5 : Hid (∀ q, (Value.slice A5 (G.names ++ [n1w]).length k5).ownBlock = some q → q ≠ w1.heap.size ∧ (q < B ∨ w1.heap.size ≤ q)) := (fun q hq' => t5.elim (fun t5 => by rw [hq'] at t5; exact ⟨fun e => by subst e; exact hq _ h3 t5, .inl (H4.out q t5.symm)⟩) (fun t5 => by rw [hq'] at t5; injection t5 with t5; simp at t5; exact ⟨by omega, .inr (by omega)⟩)); clear o5 q5 q1 q2 g5 t5 hq)
    | (at_builtin; refine wpList_append_one (d := freeRd rulRd Good) rfl (base := 0) (.tmp 14) (.tmp 20) 23 53 _ 32 (by rfl) Try.underlying23 infoRul (by rfl) (by show 0 < 2; decide) (v := .slice Ar G.rules.length kr) (xs := G.rules) (by rfl) ((OF.out.flat_upd (flat_free _ _) U5.out (fun b hb e => by have := hrb.out b hb; have := H4.out b e; omega)).flat_upd (flat_free _ _) (((Upd.refl (fun b => b = w1.heap.size) w5).setCell (p := ⟨w1.heap.size, 1, none⟩) rfl _).alloc _) (fun b hb e => by have := hrb.out b hb; omega)) ⟨(G.names.length : Int), cs⟩ #[.int .i64 G.names.length, .slice Ac cs.length cc] (fun w' _ => ⟨rfl, by simp [Value.oneCell'], fun w'' hw => HN.out w'' hw⟩) (b := w5.heap.size) (c := 1) (by rfl) (by rw [← show (w5.setCell ⟨w1.heap.size, 1, none⟩ (.slice A5 (G.names.length + 1) k5)).heap.size = w5.heap.size by simp [World.setCell]]; exact heap_alloc_new _ _) (by omega) (by decide) (Nat.zero_le _) ?_; intro v7 w7 o7 g7 t7; obtain ⟨A7, k7, rfl, -, -, -⟩ := o7.shape; have q7 := blk_grown (blk_below (blk_set Q5.out 1 (.slice A5 (G.names.length + 1) k5)) (below_alloc' (below_refl _) (Obj.cells #[.int .i64 G.names.length, .slice Ac cs.length cc] 53))) g7 (fun e => by have := hrb.out _ e.symm; omega); have q72 := blk_grown (blk_below ((Below.heap_setCell w5 ⟨w1.heap.size, 1, none⟩ (.slice A5 (G.names.length + 1) k5) (w.heap.size + 1) (by simp only; omega)).trans Q2.out) (below_alloc' (below_refl _) (Obj.cells #[.int .i64 G.names.length, .slice Ac cs.length cc] 53))) g7 (fun e => by have := hrb.out _ e.symm; omega); have r0 := blk_cell q7 0; have r1 := blk_cell q7 1; have r2 := blk_cell q7 2; have f2 := blk_frozen q7 2; have z0 := blk_cell q72 0; have z1 := blk_cell q72 1; have z2 := blk_cell q72 2; have y0 := blk_frozen q72 0; have y1 := blk_frozen q72 1; have y2 := blk_frozen q72 2; simp at r0 r1 r2 z0 z1 z2; have O7 := Lib.hid o7; have G7 := Lib.hid g7; have hs7 : w5.heap.size + 1 ≤ w7.heap.size := (by have := g7.size; simp at this; omega); have T7 : Hid (∀ q, (Value.slice A7 (G.rules ++ [(⟨(G.names.length : Int), cs⟩ : Rul)]).length k7).ownBlock = some q → q ≠ w1.heap.size ∧ q ≠ w.heap.size + 1) := (fun q hq' => t7.elim (fun t => by rw [hq'] at t; have := hrb.out q t.symm; omega) (fun t => by rw [hq'] at t; injection t with t; simp at t; omega)); clear o7 g7 t7 q7 q72)
    | fail)
  refine bodyPost_ret (v := .agg #[.int .i64 G.start, .slice A5 (G.names.length + 1) k5, .slice A7 (G.rules.length + 1) k7]) (by simp [results, Try.results23, go_sem, World.cell?_setCell_same, World.cell?_setCell_other, z0, z1, z2, hne4]) rfl ?_
  generalize hWF : (((w7.setCell ⟨w1.heap.size, 2, none⟩ (.slice A7 (G.rules.length + 1) k7)).setCell ⟨w.heap.size + 1, 0, none⟩ (.int .i64 G.start)).setCell ⟨w.heap.size + 1, 1, none⟩ (.slice A5 (G.names.length + 1) k5)).setCell ⟨w.heap.size + 1, 2, none⟩ (.slice A7 (G.rules.length + 1) k7) = WF
  have U7 : Upd (fun b => b = w1.heap.size ∨ b = w.heap.size + 1) w7 WF := by
    rw [← hWF]
    exact ((((Upd.refl _ w7).setCell (p := ⟨w1.heap.size, 2, none⟩) (.inl rfl) _).setCell (p := ⟨w.heap.size + 1, 0, none⟩) (.inr rfl) _).setCell (p := ⟨w.heap.size + 1, 1, none⟩) (.inr rfl) _).setCell (p := ⟨w.heap.size + 1, 2, none⟩) (.inr rfl) _
  have U57 : Upd (fun b => (Value.slice Ar G.rules.length kr).ownBlock = some b ∨ b = w1.heap.size ∨ b = w.heap.size + 1) w5 WF :=
    ((((Upd.refl _ w5).setCell (p := ⟨w1.heap.size, 1, none⟩) (.inr (.inl rfl)) _).alloc _).trans ((Upd.of_grown G7.out).mono (fun b h => .inl h))).trans (U7.mono (fun b h => .inr h))
  have hBF : Below w.heap.size w WF := HB5.out.trans (U57.below (by omega) (fun b h => by
    rcases h with h | rfl | rfl
    · have := hrb.out b h; omega
    · omega
    · omega))
  have U1 : Upd (fun b => b < B ∨ (Value.slice Ar G.rules.length kr).ownBlock = some b) w1 WF := by
    have a1 : Upd (fun b => b < B ∨ (Value.slice Ar G.rules.length kr).ownBlock = some b) w1 w5 := U5.out.mono (fun b h => .inl (H4.out b h))
    have a2 := ((a1.setNew (p := ⟨w1.heap.size, 1, none⟩) (Nat.le_refl _) (.slice A5 (G.names.length + 1) k5)).alloc (Obj.cells #[.int .i64 G.names.length, .slice Ac cs.length cc] 53)).trans ((Upd.of_grown G7.out).mono (fun b h => .inr h))
    rw [← hWF]
    exact (((a2.setNew (p := ⟨w1.heap.size, 2, none⟩) (Nat.le_refl _) _).setCell (p := ⟨w.heap.size + 1, 0, none⟩) (.inl (by simp only; omega)) _).setCell (p := ⟨w.heap.size + 1, 1, none⟩) (.inl (by simp only; omega)) _).setCell (p := ⟨w.heap.size + 1, 2, none⟩) (.inl (by simp only; omega)) _
  obtain ⟨A8, k8, e8, l1, l2, l3⟩ := (O5.out.flat_upd flat_str U57 (fun b hb h => by
    have := T5.out b hb
    have := O5.out.base hb
    rcases h with h | rfl | rfl
    · have := hrb.out b h; omega
    · omega
    · omega)).rd
  injection e8 with e8 _
  injection e8 with e8 e9 e10
  subst e8; subst e10
  obtain ⟨A9, k9, e8, l4, l5, l6⟩ := (O7.out.flat_upd (flat_free _ _) U7 (fun b hb h => by
    have := T7.out b hb
    omega)).rd
  injection e8 with e8 _
  injection e8 with e8 e9 e10
  subst e8; subst e10
  refine ⟨hBF, _, k5, _, k7, by simp [oneG], l1, l2, l3, l4, l5, C_free l6 (by rw [HGD.out]; exact ⟨hBF, U1⟩)⟩
end Go.Proofs.Ytmccdakmdcdbeaa
