/-
  V5: templelaw11.MeanStars answers true: the walk.
-/
import Derived.Test.YtmccdakmdcdbeaaV4
set_option linter.unusedSimpArgs false
set_option linter.unusedVariables false
namespace Go.Proofs.Ytmccdakmdcdbeaa
open Go.RowKit

/-! The two new rules, laid. -/
def starObjs (N n k : Nat) : List Obj := [
  .cells #[.bool false, .slice none 0 0] 48 (0, 0),
  symO [⟨(k : Int), 0, 0⟩, ⟨(n : Int), 0, 0⟩],
  .cells #[.bool false, .slice (some ⟨N + 1, 0, none⟩) 2 2] 48 (0, 0),
  .cells #[.int .i64 n, .slice (some ⟨N, 0, none⟩) 1 1, .int .i64 n, .slice (some ⟨N + 2, 0, none⟩) 1 1] 53 (0, 0)]
def GoodS (B : Nat) (v : Value) (w4 : World) (N n k : Nat) (w' : World) : Prop :=
  Upd (fun b => b < B ∨ v.ownBlock = some b) w4 w' ∧ ∀ j o, j < 3 → (starObjs N n k)[j]? = some o → w'.heap[N + j]? = some o
theorem star_K {B N n k : Nat} {v : Value} {w4 w' : World} (g : GoodS B v w4 N n k w') :
    rulRd.K w' ⟨(n : Int), [⟨false, []⟩]⟩ [.int .i64 n, .slice (some ⟨N, 0, none⟩) 1 1] ∧ rulRd.K w' ⟨(n : Int), [⟨false, [⟨(k : Int), 0, 0⟩, ⟨(n : Int), 0, 0⟩]⟩]⟩ [.int .i64 n, .slice (some ⟨N + 2, 0, none⟩) 1 1] := by
  have h1 := symO_C (g.2 1 _ (by decide) rfl)
  have d0 : conjRd.C w' (some ⟨N, 0, none⟩) [⟨false, []⟩] := C_blk [[.bool false, .slice none 0 0]] (g.2 0 _ (by decide) rfl) rfl ⟨⟨conjRd_mk (x := ⟨false, []⟩) (by decide) (by decide) (Rd.C.nil _ _ _), rfl⟩, trivial⟩
  have d2 : conjRd.C w' (some ⟨N + 2, 0, none⟩) [⟨false, [⟨(k : Int), 0, 0⟩, ⟨(n : Int), 0, 0⟩]⟩] := C_blk [[.bool false, .slice (some ⟨N + 1, 0, none⟩) 2 2]] (g.2 2 _ (by decide) rfl) rfl ⟨⟨conjRd_mk (x := ⟨false, [⟨(k : Int), 0, 0⟩, ⟨(n : Int), 0, 0⟩]⟩) (Nat.le_refl _) (by simp) h1, rfl⟩, trivial⟩
  exact ⟨rulRd_mk (x := ⟨(n : Int), [⟨false, []⟩]⟩) (Nat.le_refl _) (by simp) d0, rulRd_mk (x := ⟨(n : Int), [⟨false, [⟨(k : Int), 0, 0⟩, ⟨(n : Int), 0, 0⟩]⟩]⟩) (Nat.le_refl _) (by simp) d2⟩
theorem star_free {B N n k : Nat} {v : Value} {w4 w' : World} (h : w'.heap[N + 3]? = some (.cells #[.int .i64 n, .slice (some ⟨N, 0, none⟩) 1 1, .int .i64 n, .slice (some ⟨N + 2, 0, none⟩) 1 1] 53 (0, 0))) :
    (freeRd rulRd (GoodS B v w4 N n k)).C w' (some ⟨N + 3, 0, none⟩) (starRules n k) :=
  C_blk [[.int .i64 n, .slice (some ⟨N, 0, none⟩) 1 1], [.int .i64 n, .slice (some ⟨N + 2, 0, none⟩) 1 1]] h rfl
    ⟨⟨⟨rfl, by simp [Value.oneCell'], fun w'' g => (star_K g).1⟩, rfl⟩, ⟨⟨rfl, by simp [Value.oneCell'], fun w'' g => (star_K g).2⟩, rfl⟩, trivial⟩
theorem allocs_upd {R : Nat → Prop} {a : World} : ∀ (os : List Obj) {W : World}, Upd R a W → Upd R a (allocs W os) := by
  intro os
  induction os with
  | nil => intro W h; exact h
  | cons o os ih => intro W h; exact ih (h.alloc o)
theorem star_heap {W : World} {N n k : Nat} (hN : W.heap.size = N) : ∀ j o, (starObjs N n k)[j]? = some o → (allocs W (starObjs N n k)).heap[N + j]? = some o := fun j o h => by
  have := allocs_heap (starObjs N n k) W j o h
  rwa [hN] at this
theorem infoBool : (Try.prog.info? 4).map (fun i => (i.zero, i.size, i.bytes)) = some (some (.bool false), 1, 1) := by kernel_rfl
def bObj (n : Nat) : Obj := .cells (madeCells #[.bool false] n) 4 (0, 0)
theorem mkbool_run (S : Nat) (h : S ≤ 1089) : ∀ w : World, (Instr.makeSlice 61 (.int .i64 (S : Int)) (.int .i64 (S : Int))).run Try.prog w = .ok (.slice (some ⟨w.heap.size, 0, none⟩) S S) (w.alloc (bObj S)) := by
  intro w
  obtain ⟨i0, hi, hz0, hz1, hz2⟩ := info_parts infoBool
  have h := run_make (P := Try.prog) w 61 4 i0 (.bool false) Try.underlying61 hi hz0 .i64 .i64 (S : Int) (S : Int) (by omega) (by omega) (by rw [hz2]; omega) (by omega)
  rw [h, hz1]
  simp only [Int.toNat_natCast, Nat.mul_one, bObj]
  rfl
/-- A row of Bools. -/
def BRow (w : World) (g S : Nat) (f : Nat → Bool) : Prop := ∀ p, p < S → w.cell? ⟨g, p, none⟩ = some (.bool (f p)) ∧ w.frozen? ⟨g, p, none⟩ = false
theorem BRow.new (w : World) (S : Nat) : BRow (w.alloc (bObj S)) w.heap.size S (fun _ => false) := by
  intro p hp
  have h := heap_alloc_new w (bObj S)
  refine ⟨?_, blk_frozen h p⟩
  rw [blk_cell h, ← Array.getElem?_toList, toList_madeCells_one]
  simp [hp]
theorem BRow.set {w : World} {g S : Nat} {f : Nat → Bool} (h : BRow w g S f) {q : Nat} (hq : q < S) (b : Bool) : BRow (w.setCell ⟨g, q, none⟩ (.bool b)) g S (fun p => if p = q then b else f p) := by
  intro p hp
  refine ⟨?_, by simpa using (h p hp).2⟩
  by_cases e : p = q
  · subst e
    rw [World.cell?_setCell_same _ _ _ (h p hp).1]
    simp
  · rw [World.cell?_setCell_other _ _ _ _ (fun e' => e (by injection e' with _ e2; exact e2.symm)), (h p hp).1]
    simp [e]
theorem BRow.below {w w' : World} {g S : Nat} {f : Nat → Bool} (h : BRow w g S f) (hb : Below w.heap.size w w') : BRow w' g S f := fun p hp => ⟨below_cell hb (h p hp).1, below_froz hb (h p hp).1 (h p hp).2⟩
def CanJ (w0 : World) (kk : Int → Int → Prop) (i n S : Nat) (cnt : Value) (wr : World) : Prop :=
  ∃ (j : Nat) (f : Nat → Bool), cnt = .int .i64 j ∧ i ≤ j ∧ j ≤ n + 1 ∧ BRow wr w0.heap.size S f ∧ Hid (∀ q, q ≤ n → (f q = true ↔ q = i ∨ (i ≤ q ∧ q < j ∧ Star kk i q))) ∧ Below w0.heap.size w0 wr ∧ w0.heap.size < wr.heap.size
def CanP (w0 : World) (kk : Int → Int → Prop) (i j n S : Nat) (cnt : Value) (wr : World) : Prop :=
  ∃ (p : Nat) (f : Nat → Bool), cnt = .int .i64 p ∧ i ≤ p ∧ p ≤ j ∧ BRow wr w0.heap.size S f ∧ Hid (∀ q, q ≤ n → q ≠ j → (f q = true ↔ q = i ∨ (i ≤ q ∧ q < j ∧ Star kk i q))) ∧ Hid (f j = true ↔ j = i ∨ ∃ q : Nat, i ≤ q ∧ q < p ∧ Star kk i q ∧ kk q j) ∧
    Below w0.heap.size w0 wr ∧ w0.heap.size < wr.heap.size
section
variable {kk : Int → Int → Prop} {i j p n : Nat} {f : Nat → Bool}
theorem canP_no (h2 : f j = true ↔ j = i ∨ ∃ q : Nat, i ≤ q ∧ q < p ∧ Star kk i q ∧ kk q j) (hno : ¬ (Star kk i p ∧ kk p j)) : f j = true ↔ j = i ∨ ∃ q : Nat, i ≤ q ∧ q < p + 1 ∧ Star kk i q ∧ kk q j := by
  rw [h2]
  constructor
  · rintro (h | ⟨q, a, b, c, d⟩)
    · exact .inl h
    · exact .inr ⟨q, a, by omega, c, d⟩
  · rintro (h | ⟨q, a, b, c, d⟩)
    · exact .inl h
    · by_cases e : q = p
      · subst e; exact absurd ⟨c, d⟩ hno
      · exact .inr ⟨q, a, by omega, c, d⟩
theorem canP_star (h1 : ∀ q, q ≤ n → q ≠ j → (f q = true ↔ q = i ∨ (i ≤ q ∧ q < j ∧ Star kk i q))) (hp : p < j) (hj : j ≤ n) (hip : i ≤ p) : f p = true ↔ Star kk i p := by
  rw [h1 p (by omega) (by omega)]
  constructor
  · rintro (rfl | ⟨a, b, c⟩)
    · exact .nil _
    · exact c
  · intro h; exact .inr ⟨hip, hp, h⟩
theorem canJ_end (hk : ∀ a b, kk a b → a ≤ b) (h1 : ∀ q, q ≤ n → q ≠ j → (f q = true ↔ q = i ∨ (i ≤ q ∧ q < j ∧ Star kk i q))) (h2 : f j = true ↔ j = i ∨ ∃ q : Nat, i ≤ q ∧ q < j ∧ Star kk i q ∧ kk q j) (hij : i ≤ j) :
    (f j = true ↔ Star kk i j) ∧ ∀ q, q ≤ n → (f q = true ↔ q = i ∨ (i ≤ q ∧ q < j + 1 ∧ Star kk i q)) := by
  have e : f j = true ↔ Star kk i j := by
    rw [h2, star_last hk]
    constructor
    · rintro (h | ⟨q, a, b, c, d⟩)
      · left; omega
      · exact .inr ⟨q, by omega, by omega, c, d⟩
    · rintro (h | ⟨q, a, b, c, d⟩)
      · left; omega
      · obtain ⟨m, rfl⟩ : ∃ m : Nat, q = (m : Int) := ⟨q.toNat, by omega⟩
        exact .inr ⟨m, by omega, by omega, c, d⟩
  refine ⟨e, fun q hq => ?_⟩
  by_cases hqj : q = j
  · subst hqj
    rw [e]
    constructor
    · intro h; exact .inr ⟨hij, by omega, h⟩
    · rintro (rfl | ⟨a, b, c⟩)
      · exact .nil _
      · exact c
  · rw [h1 q hq hqj]
    constructor
    · rintro (h | ⟨a, b, c⟩)
      · exact .inl h
      · exact .inr ⟨a, by omega, c⟩
    · rintro (h | ⟨a, b, c⟩)
      · exact .inl h
      · exact .inr ⟨a, by omega, c⟩
end
set_option maxRecDepth 100000 in
set_option maxHeartbeats 4000000 in
theorem stars_any {w : World} (G : Gram) (W : ByteArray) {A A' : Option Addr} {c c' : Nat} (x : Int) (hWs : W.size < 140737488351233) (n1 : G.names.length ≤ c) (n2 : c ≤ 9223372036854775807) (n3 : Rd.str.C w A G.names) (n4 : G.rules.length ≤ c') (n5 : c' ≤ 9223372036854775807) (n6 : rulRd.C w A' G.rules) :
    Calls Try.prog 12 #[.agg #[.int .i64 G.start, .slice A G.names.length c, .slice A' G.rules.length c'], .string W, .int .i64 x] w
      fun e w' => e = .returned (.bool true) ∧ Below w.heap.size w w' := by
  have hb0 : Below w.heap.size w (w.alloc (Obj.cells #[Value.int .i64 G.start, Value.slice A G.names.length c, Value.slice A' G.rules.length c'] 25)) := below_alloc' (below_refl w) _
  have B0 := heap_alloc_new w (Obj.cells #[Value.int .i64 G.start, Value.slice A G.names.length c, Value.slice A' G.rules.length c'] 25)
  have N3 := Lib.hid (n3.mono hb0)
  have N6 := Lib.hid (n6.mono hb0)
  clear n3 n6
  go_enter Try.func12, Try.ntmps12
  go_wp2_with fail
  obtain ⟨bx, hbx⟩ : ∃ bx, bx = w.heap.size := ⟨_, rfl⟩
  rw [← hbx] at B0 ⊢
  generalize w.alloc (Obj.cells #[Value.int .i64 G.start, Value.slice A G.names.length c, Value.slice A' G.rules.length c'] 25) = w0 at hb0 B0 N3 N6 ⊢
  have HB0 := Lib.hid hb0
  have HX := Lib.hid B0
  clear hb0 B0 hbx
  go_wp2_with (first
    | (go_at_call 13; refine (awake_any _).mono ?_; rintro e w1 ⟨rfl, hb1⟩; have HB1 := Lib.hid hb1; have z0 : w1.cell? ⟨bx, 0, none⟩ = some (.int .i64 G.start) := blk_cell (blk_below HX.out hb1) 0; have z1 : w1.cell? ⟨bx, 1, none⟩ = some (.slice A G.names.length c) := blk_cell (blk_below HX.out hb1) 1; have z2 : w1.cell? ⟨bx, 2, none⟩ = some (.slice A' G.rules.length c') := blk_cell (blk_below HX.out hb1) 2; clear hb1)
    | fail)
  refine (new_whole G W n1 n2 (N3.out.mono HB1.out) n4 n5 (N6.out.mono HB1.out)).mono ?_
  rintro e w2 ⟨hb2, ⟨-, rfl⟩ | ⟨hmay, hcyc, hW, t, fin, hL, tG, tW, rfl, hS, hR, hSol⟩⟩
  · have HB2 := Lib.hid hb2
    clear hb2 z0 z1 z2
    go_wp2_with (first
      | (go_at_call 15; refine (num_any _ _).mono ?_; rintro e w' ⟨rfl, rfl⟩)
      | fail)
    go_ret
    exact ⟨rfl, below_trans HB0.out (below_trans HB1.out HB2.out)⟩
  · have T2 := Lib.hid (show Tab w2 t fin from ⟨hL, hS, hR, hSol⟩)
    have TG := Lib.hid tG
    have TW := Lib.hid tW
    have MAY := Lib.hid hmay
    have CYC := Lib.hid hcyc
    have TK := Lib.hid (show t.K = G.names.length by unfold TS.K; rw [tG])
    have F0 := Lib.hid hL.F
    have HB2 := Lib.hid (below_trans HB1.out hb2)
    have hK1 := (mayG hmay).K1
    have hK64 := (mayG hmay).K64
    have hR256 := (mayG hmay).rules
    clear hb2 z0 z1 z2 HB1 hL hS hR hSol tG tW hmay hcyc
    have bX := Lib.hid (blk_below HX.out HB2.out)
    have z0 : w2.cell? ⟨bx, 0, none⟩ = some (.int .i64 G.start) := blk_cell bX.out 0
    have z1 : w2.cell? ⟨bx, 1, none⟩ = some (.slice A G.names.length c) := blk_cell bX.out 1
    have z2 : w2.cell? ⟨bx, 2, none⟩ = some (.slice A' G.rules.length c') := blk_cell bX.out 2
    have N62 := Lib.hid (N6.out.mono HB2.out)
    have N32 := Lib.hid (N3.out.mono HB2.out)
    clear N6 N3 HX
    obtain ⟨k, hk, hk1⟩ := umod_names x hK1 hK64
    have hz : ((G.names.length : Int) = 0) = False := eq_false (by omega)
    go_wp2_with (first
      | (go_at_call 15; refine (num_any _ _).mono ?_; rintro e w2 ⟨rfl, rfl⟩)
      | fail)
    go_quiet (fail)
    have hd : Below w2.heap.size w2 (w2.drewN nq) := below_drewN' (below_refl _) nq
    generalize w2.drewN nq = w3 at hd ⊢
    have T3 := Lib.hid (T2.out.below hd)
    have N63 := Lib.hid (N62.out.mono hd)
    have N33 := Lib.hid (N32.out.mono hd)
    have X3 := Lib.hid (blk_below bX.out hd)
    have HB3 := Lib.hid (below_then HB2.out hd)
    clear hd z0 z1 z2 T2 N62 N32 bX HB2 hk hz
    have z0 : w3.cell? ⟨bx, 0, none⟩ = some (.int .i64 G.start) := blk_cell X3.out 0
    have z1 : w3.cell? ⟨bx, 1, none⟩ = some (.slice A G.names.length c) := blk_cell X3.out 1
    have z2 : w3.cell? ⟨bx, 2, none⟩ = some (.slice A' G.rules.length c') := blk_cell X3.out 2
    go_wp2_with fail
    refine (copyG_any G n1 n2 N33.out n4 n5 N63.out (holdable_of (mayG MAY.out))).mono ?_
    rintro e w4 ⟨vn, vr, base, B, rfl, on, or, h1, h2, h3, h4, hb4⟩
    obtain ⟨An, kn, rfl, -, -, -⟩ := on.shape
    obtain ⟨Ar, kr, rfl, -, -, -⟩ := or.shape
    have ON := Lib.hid on
    have OR := Lib.hid or
    have HB34 := Lib.hid hb4
    have H4 := Lib.hid h4
    have hl1 := blk_lt X3.out
    have hs34 := hb4.size
    have hrb : Hid (∀ b, (Value.slice Ar G.rules.length kr).ownBlock = some b → B ≤ b ∧ b < w4.heap.size) := fun b hb => OR.out.base hb
    clear on or hb4 h4 z0 z1 z2 N63 N33
    go_wp2_with (first
      | (at_builtin; refine wpList_append_one (d := Rd.str) rfl (base := base) (.tmp 53) (.tmp 54) 22 9 _ 16 (by rfl) Try.underlying22 infoStr (by rfl) (by decide) (v := .slice An G.names.length kn) (xs := G.names) (by rfl) (ON.out.below (below_alloc' (below_alloc' (below_refl _) _) _)) n1w #[.string n1w] (fun _ _ => rfl) (b := w4.heap.size + 1) (c := 1) (by rfl) (heap_alloc2_new w4 _ _) (by omega) (by decide) (by simp; omega) ?_; intro v5 w5 o5 g5 t5; obtain ⟨A5, k5, rfl, -, -, -⟩ := o5.shape; have hq : ∀ k, B ≤ k → some k ≠ (Value.slice An G.names.length kn).ownBlock := (fun k hk e => by have := H4.out k e.symm; omega); have q5 : w5.heap[w4.heap.size]? = some (.cells #[.int .i64 G.start, .slice An G.names.length kn, .slice Ar G.rules.length kr] 25 (0, 0)) := blk_grown (heap_alloc2_old w4 _ _) g5 (hq _ (by omega)); have U5 : Hid (Upd (fun b => (Value.slice An G.names.length kn).ownBlock = some b) w4 w5) := ((Upd.of_below (below_alloc' (below_alloc' (below_refl _) _) _)).trans (Upd.of_grown g5)); have u0 := blk_cell q5 0; have u1 := blk_cell q5 1; have u2 := blk_cell q5 2; have f1 := blk_frozen q5 1; simp at u0 u1 u2; have hs5 : w4.heap.size + 2 ≤ w5.heap.size := (by have := g5.size; simp at this; omega); have hz5 : (w5.setCell ⟨w4.heap.size, 1, none⟩ (.slice A5 (G.names.length + 1) k5)).heap.size = w5.heap.size := (by simp [World.setCell]); have O5 := Lib.hid o5; have Q5 := Lib.hid q5; have T5 : Hid (∀ q, (Value.slice A5 (G.names ++ [n1w]).length k5).ownBlock = some q → base ≤ q ∧ q ≠ w4.heap.size ∧ (q < B ∨ w4.heap.size ≤ q)) := (fun q hq' => t5.elim (fun t5 => by rw [hq'] at t5; exact ⟨(o5.base hq').1, fun e => by subst e; exact hq _ h3 t5, .inl (H4.out q t5.symm)⟩) (fun t5 => by rw [hq'] at t5; injection t5 with t5; simp at t5; exact ⟨by omega, by omega, .inr (by omega)⟩)); have OF := Lib.hid (own_free (Good := GoodS B (.slice Ar G.rules.length kr) w4 w5.heap.size G.names.length k) OR.out (fun w' h => h.1)); have LIE := Lib.hid (star_heap (n := G.names.length) (k := k) hz5); have UP6 : Hid (Upd (fun b => b = w4.heap.size) w5 (allocs (w5.setCell ⟨w4.heap.size, 1, none⟩ (.slice A5 (G.names.length + 1) k5)) (starObjs w5.heap.size G.names.length k))) := allocs_upd _ ((Upd.refl (fun b => b = w4.heap.size) w5).setCell (p := ⟨w4.heap.size, 1, none⟩) rfl _); have Q6 : Hid ((allocs (w5.setCell ⟨w4.heap.size, 1, none⟩ (.slice A5 (G.names.length + 1) k5)) (starObjs w5.heap.size G.names.length k)).heap[w4.heap.size]? = some (.cells #[.int .i64 G.start, .slice A5 (G.names.length + 1) k5, .slice Ar G.rules.length kr] 25 (0, 0))) := ((allocs_old _ _ _ (by rw [hz5]; omega)).trans (blk_set Q5.out 1 (.slice A5 (G.names.length + 1) k5))); have HB35 : Hid (Below w3.heap.size w3 w5) := (below_grown (below_then HB34.out (below_alloc' (below_alloc' (below_refl _) _) _)) g5 (fun k hk => by have := (ON.out.base hk).1; omega)); have hs6 : w5.heap.size ≤ (allocs (w5.setCell ⟨w4.heap.size, 1, none⟩ (.slice A5 (G.names.length + 1) k5)) (starObjs w5.heap.size G.names.length k)).heap.size := UP6.out.size; clear o5 q5 g5 t5 hq hz5)
      | (at_builtin; refine wpList_append_flat (d := freeRd rulRd (GoodS B (.slice Ar G.rules.length kr) w4 w5.heap.size G.names.length k)) rfl (base := 0) (.tmp 58) (.tmp 72) 23 53 _ 32 (by rfl) Try.underlying23 infoRul (by rfl) (by show 0 < 2; decide) (v := .slice Ar G.rules.length kr) (xs := G.rules) (ys := starRules G.names.length k) (by rfl) ((OF.out.flat_upd (flat_free _ _) U5.out (fun b hb e => by have := hrb.out b hb; have := H4.out b e; omega)).flat_upd (flat_free _ _) UP6.out (fun b hb e => by have := hrb.out b hb; omega)) (flat_free _ _) (A := some ⟨w5.heap.size + 3, 0, none⟩) (c := 2) (by rfl) (star_free (LIE.out 3 _ rfl)) (by simp [starRules]; omega) (by decide) (Nat.zero_le _) ?_; intro v7 w7 o7 g7 t7; obtain ⟨A7, k7, rfl, -, -, -⟩ := o7.shape; have g7' : World.grownBy (allocs (w5.setCell ⟨w4.heap.size, 1, none⟩ (.slice A5 (G.names.length + 1) k5)) (starObjs w5.heap.size G.names.length k)) w7 (Value.slice Ar G.rules.length kr).ownBlock := g7; clear g7; have g7 := g7'; clear g7'; have t7' : (Value.slice A7 (G.rules ++ starRules G.names.length k).length k7).ownBlock = (Value.slice Ar G.rules.length kr).ownBlock ∨ (Value.slice A7 (G.rules ++ starRules G.names.length k).length k7).ownBlock = some (allocs (w5.setCell ⟨w4.heap.size, 1, none⟩ (.slice A5 (G.names.length + 1) k5)) (starObjs w5.heap.size G.names.length k)).heap.size := t7; clear t7; have t7 := t7'; clear t7'; have q7 := blk_grown Q6.out g7 (fun e => by have := hrb.out _ e.symm; omega); have S7 : Hid (∀ j o, j < 3 → (starObjs w5.heap.size G.names.length k)[j]? = some o → w7.heap[w5.heap.size + j]? = some o) := (fun j o hj ho => blk_grown (LIE.out j o ho) g7 (fun e => by have := hrb.out _ e.symm; omega)); have r0 := blk_cell q7 0; have r1 := blk_cell q7 1; have r2 := blk_cell q7 2; have f2 := blk_frozen q7 2; simp at r0 r1 r2; have O7 := Lib.hid o7; have G7 := Lib.hid g7; have hs7 : w5.heap.size ≤ w7.heap.size := (by have := g7.size; omega); have T7 : Hid (∀ q, (Value.slice A7 (G.rules ++ starRules G.names.length k).length k7).ownBlock = some q → q ≠ w4.heap.size) := (fun q hq' => t7.elim (fun t => by rw [hq'] at t; have := hrb.out q t.symm; omega) (fun t => by rw [hq'] at t; injection t with t; omega)); clear o7 g7 t7 q7)
      | fail)
    obtain ⟨WF, hWF⟩ : ∃ WF, WF = w7.setCell ⟨w4.heap.size, 2, none⟩ (.slice A7 (G.rules.length + (starRules G.names.length k).length) k7) := ⟨_, rfl⟩
    rw [← hWF]
    have U7 : Upd (fun b => b = w4.heap.size) w7 WF := by
      rw [hWF]; exact (Upd.refl (fun b => b = w4.heap.size) w7).setCell (p := ⟨w4.heap.size, 2, none⟩) rfl _
    have U57 : Upd (fun b => (Value.slice Ar G.rules.length kr).ownBlock = some b ∨ b = w4.heap.size) w5 WF :=
      ((UP6.out.mono (fun b h => .inr h)).trans ((Upd.of_grown G7.out).mono (fun b h => .inl h))).trans (U7.mono (fun b h => .inr h))
    have hBF : Below w3.heap.size w3 WF := HB35.out.trans (U57.below (by omega) (fun b h => by
      rcases h with h | rfl
      · have := hrb.out b h; omega
      · omega))
    have U1 : Upd (fun b => b < B ∨ (Value.slice Ar G.rules.length kr).ownBlock = some b) w4 WF := by
      have a1 : Upd (fun b => b < B ∨ (Value.slice Ar G.rules.length kr).ownBlock = some b) w4 w5 := U5.out.mono (fun b h => .inl (H4.out b h))
      have a2 : Upd (fun b => b < B ∨ (Value.slice Ar G.rules.length kr).ownBlock = some b) w4 w7 := (allocs_upd (starObjs w5.heap.size G.names.length k) (a1.setNew (p := ⟨w4.heap.size, 1, none⟩) (Nat.le_refl _) (.slice A5 (G.names.length + 1) k5))).trans ((Upd.of_grown G7.out).mono (fun b h => .inr h))
      rw [hWF]
      exact a2.setNew (p := ⟨w4.heap.size, 2, none⟩) (Nat.le_refl _) _
    have hgood : GoodS B (.slice Ar G.rules.length kr) w4 w5.heap.size G.names.length k WF := ⟨U1, fun j o hj ho => by
      have h1 := S7.out j o hj ho
      exact (U7.block _ (blk_lt h1) (by omega)).trans h1⟩
    obtain ⟨A8, k8, e8, l1, l2, l3⟩ := (O5.out.flat_upd flat_str U57 (fun b hb h => by
      have := T5.out b hb
      rcases h with h | rfl
      · have := hrb.out b h; omega
      · omega)).rd
    injection e8 with e8 _
    injection e8 with e8 e9 e10
    subst e8; subst e10
    obtain ⟨A9, k9, e8, l4, l5, l6⟩ := (O7.out.flat_upd (flat_free _ _) U7 (fun b hb h => T7.out b hb h)).rd
    injection e8 with e8 _
    injection e8 with e8 e9 e10
    subst e8; subst e10
    have cn := new_whole (w := WF) (extG G (starRules G.names.length k)) W l1 l2 l3 l4 l5 (C_free l6 hgood)
    have e1 : (extG G (starRules G.names.length k)).names.length = G.names.length + 1 := by simp [extG]
    have e2 : (extG G (starRules G.names.length k)).rules.length = G.rules.length + (starRules G.names.length k).length := by simp [extG]
    rw [e1, e2] at cn
    have CN := Lib.hid cn
    have T8 := Lib.hid (T3.out.below hBF)
    have HB8 := Lib.hid (below_then HB3.out hBF)
    clear hWF U7 U57 hBF U1 hgood l1 l2 l3 l4 l5 l6 e1 e2 cn T3 HB3 HB35 UP6 Q6 LIE S7 O7 G7 T7 O5 Q5 T5 OF U5 ON OR H4 hrb HB34 X3 u0 u1 u2 f1 r0 r1 r2 f2
    refine CN.out.mono ?_
    clear CN
    rintro e w6 ⟨hb6, ⟨-, rfl⟩ | ⟨-, -, -, u, fin', uL, uG, uW, rfl, uS, uR, uSol⟩⟩
    · have HB6 := Lib.hid (below_then HB8.out hb6)
      clear hb6
      go_wp2_with (first
        | (go_at_call 15; refine (num_any _ _).mono ?_; rintro e w6 ⟨rfl, rfl⟩)
        | fail)
      go_ret
      exact ⟨rfl, below_then HB0.out HB6.out⟩
    · have U6 := Lib.hid (show Tab w6 u fin' from ⟨uL, uS, uR, uSol⟩)
      have T6 := Lib.hid (T8.out.below hb6)
      have HB6 := Lib.hid (below_then HB8.out hb6)
      have UG := Lib.hid uG
      have UW := Lib.hid uW
      have FU := Lib.hid uL.F
      clear hb6 uL uG uW uS uR uSol T8 HB8
      go_wp2_with (first
        | (go_at_call 15; refine (num_any _ _).mono ?_; rintro e w6 ⟨rfl, rfl⟩)
        | fail)
      obtain ⟨S, hS⟩ : ∃ S, S = W.size + 1 := ⟨_, rfl⟩
      have hSi : (W.size : Int) + 1 = (S : Int) := by omega
      have hmk := mkbool_run S (by omega)
      go_loopw [14] (fun cnt wr => NumRel w6 (W.size + 1) cnt wr) (fun cnt _ => W.size + 1 - (intOf cnt).toNat)
      case atStart => exact ⟨0, rfl, Nat.zero_le _, below_refl _⟩
      case round =>
        obtain ⟨i, rfl, hi, hb⟩ := hrel
        have HB := Lib.hid hb
        clear hb
        by_cases hlt : i ≤ W.size
        · have hiS : (i : Int) < (S : Int) := by omega
          have br0 := BRow.new wr S
          have bz := br0 i (by omega)
          obtain ⟨bz1, bz2⟩ := bz
          have BR0 := Lib.hid br0
          have HS := Lib.hid hS
          clear br0 hS
          go_wp2_with fail
          obtain ⟨wi, rfl⟩ : ∃ wi : World, wi = wr := ⟨_, rfl⟩
          have hkk : ∀ a b : Int, (fun a b => 0 ≤ a ∧ a ≤ b ∧ b ≤ (t.W.size : Int) ∧ 0 < t.rank fin.1 k a b) a b → a ≤ b := fun a b h => h.2.1
          have HKK := Lib.hid hkk
          clear hkk bz1 bz2
          go_loopw [16] (fun cnt wr' => CanJ wi (fun a b => 0 ≤ a ∧ a ≤ b ∧ b ≤ (t.W.size : Int) ∧ 0 < t.rank fin.1 k a b) i W.size S cnt wr') (fun cnt _ => W.size + 1 - (intOf cnt).toNat)
          case atStart => exact ⟨i, _, rfl, Nat.le_refl _, by omega, BR0.out.set (by omega) true, Lib.hid (fun q hq => by
            by_cases e : q = i
            · simp [e]
            · simp only [e, if_false, false_or]; exact ⟨fun h => (by cases h), fun h => (by omega)⟩), (below_alloc' (below_refl _) _).setCell (Nat.le_refl _) _, by simp [World.setCell]⟩
          case round =>
            obtain ⟨j, f, rfl, hij, hj, hf, HF, hb, hs⟩ := hrel
            have HBI := Lib.hid hb
            have HFR := Lib.hid hf
            clear hb hf
            by_cases hltj : j ≤ W.size
            · go_wp2_with fail
              go_loopw [17] (fun cnt wr' => CanP wi (fun a b => 0 ≤ a ∧ a ≤ b ∧ b ≤ (t.W.size : Int) ∧ 0 < t.rank fin.1 k a b) i j W.size S cnt wr') (fun cnt _ => j - (intOf cnt).toNat)
              case atStart => exact ⟨i, f, rfl, Nat.le_refl _, hij, HFR.out, Lib.hid (fun q hq _ => HF.out q hq), Lib.hid (by
                rw [HF.out j hltj]
                exact ⟨fun h => h.elim .inl (fun h => absurd h.2.1 (Nat.lt_irrefl _)), fun h => h.elim .inl (fun ⟨q, a, b, _⟩ => absurd b (by omega))⟩), HBI.out, hs⟩
              case round =>
                clear HF HFR HBI
                obtain ⟨p, f, rfl, hip, hpj, hf, HF1, HF2, hb, hs⟩ := hrel
                have T5 := Lib.hid (T6.out.below (below_then HB.out hb))
                have U5 := Lib.hid (U6.out.below (below_then HB.out hb))
                have HB5 := Lib.hid hb
                have HFR := Lib.hid hf
                clear hb
                by_cases hltp : p < j
                · obtain ⟨c1, c2⟩ := hf p (by omega)
                  have hpS : (p : Int) < (S : Int) := by omega
                  have hjS : (j : Int) < (S : Int) := by omega
                  cases hfp : f p with
                  | false =>
                    rw [hfp] at c1
                    have HFP := Lib.hid hfp
                    clear hf hfp
                    go_wp2_with fail
                    go_roundw
                    case rel => exact ⟨p + 1, f, by go_num, by omega, by omega, HFR.out, HF1, Lib.hid (canP_no HF2.out (fun h => by have := (canP_star HF1.out hltp hltj hip).2 h.1; rw [HFP.out] at this; cases this)), HB5.out, hs⟩
                    case measure => simp [intOf]; omega
                  | true =>
                    rw [hfp] at c1
                    have HST := Lib.hid ((canP_star HF1.out hltp hltj hip).1 hfp)
                    clear hf hfp
                    cases hA : decide (0 < t.rank fin.1 k p j) with
                    | true =>
                      have HA := Lib.hid hA
                      clear hA
                      go_wp2_with (first
                        | (go_at_call_of 16 (t.p); refine Calls.mono (has_any (t := t) (NM := fin.1) (PL := fin.2) (by exact (show Hid (Tab _ t fin) by assumption).out.st) F0.out (by exact (show Hid (Tab _ t fin) by assumption).out.rw) _ _ _) ?_; rintro e w5 ⟨rfl, hb5⟩; have T5 := Lib.hid ((show Hid (Tab _ t fin) by assumption).out.below hb5); have U5 := Lib.hid ((show Hid (Tab _ u fin') by assumption).out.below hb5); have HB5 := Lib.hid (below_then (show Hid (Below wi.heap.size wi _) by assumption).out hb5); rw [HA.out]; have hf5 := HFR.out.below hb5; obtain ⟨d1, d2⟩ := hf5 j (by omega); have HFR5 := Lib.hid hf5; have hs5 := hb5.size; clear hb5 hf5)
                        | fail)
                      go_roundw
                      case rel => exact ⟨p + 1, _, by go_num, by omega, by omega, HFR5.out.set (by omega) true, Lib.hid (fun q hq hne => by simp only [hne, if_false]; exact HF1.out q hq hne), Lib.hid (by
                        simp only [if_true, true_iff]
                        exact .inr ⟨p, hip, Nat.lt_succ_self _, HST.out, by omega, by omega, by rw [TW.out]; omega, of_decide_eq_true HA.out⟩), HB5.out.setCell (Nat.le_refl _) _, by simp [World.setCell]; omega⟩
                      case measure => simp [intOf]; omega
                    | false =>
                      have HA := Lib.hid hA
                      clear hA
                      go_wp2_with (first
                        | (go_at_call_of 16 (t.p); refine Calls.mono (has_any (t := t) (NM := fin.1) (PL := fin.2) (by exact (show Hid (Tab _ t fin) by assumption).out.st) F0.out (by exact (show Hid (Tab _ t fin) by assumption).out.rw) _ _ _) ?_; rintro e w5 ⟨rfl, hb5⟩; have T5 := Lib.hid ((show Hid (Tab _ t fin) by assumption).out.below hb5); have U5 := Lib.hid ((show Hid (Tab _ u fin') by assumption).out.below hb5); have HB5 := Lib.hid (below_then (show Hid (Below wi.heap.size wi _) by assumption).out hb5); rw [HA.out]; have HFR5 := Lib.hid (HFR.out.below hb5); have hs5 := hb5.size; clear hb5)
                        | fail)
                      go_roundw
                      case rel => exact ⟨p + 1, f, by go_num, by omega, by omega, HFR5.out, HF1, Lib.hid (canP_no HF2.out (fun h => absurd h.2.2.2.2 (of_decide_eq_false HA.out))), HB5.out, by omega⟩
                      case measure => simp [intOf]; omega
                · have hpe : p = j := by omega
                  subst hpe
                  have hend := canJ_end HKK.out HF1.out HF2.out hij
                  have ans := star_ans T5.out U5.out (k := k) (by rw [TK.out]; exact hk1) (by rw [UG.out, TG.out, TK.out]) (by rw [UW.out, TW.out]) (i := i) (j := p) (by omega) (by omega) (by rw [TW.out]; omega)
                  rw [TK.out] at ans
                  have E0 := Lib.hid (show decide (0 < u.rank fin'.1 G.names.length i p) = f p by rw [Bool.eq_iff_iff, decide_eq_true_iff, ans, hend.1])
                  have HE := Lib.hid hend.2
                  obtain ⟨c1, c2⟩ := hf p (by omega)
                  have hjS : (p : Int) < (S : Int) := by omega
                  have C1 := Lib.hid c1
                  have cU : ∀ w5, Below wr.heap.size wr w5 → Calls Try.prog 16 #[.pointer (some ⟨u.p, 0, none⟩), .int .i64 G.names.length, .int .i64 i, .int .i64 p] w5 fun e w' => e = .returned (.bool (f p)) ∧ Below w5.heap.size w5 w' := fun w5 hC => by
                    have T := U5.out.below hC
                    rw [← E0.out]
                    exact has_any T.st T.H.F T.rw _ _ _
                  have CU := Lib.hid cU
                  clear hend ans c1 c2 hf cU
                  go_wp2_with fail
                  refine wp_region_below (by kernel_rfl) (by kernel_rfl) ?_
                  repeat (first
                    | (refine qv_val' (by rfl) ?_; apply Exists.intro; refine ⟨fun w5 hC => ?_, ?_⟩; (have q0 := below_cell hC C1.out; go_simp; rfl); simp only [Act.put, List.setIfInBounds_toArray, List.set_cons_zero, List.set_cons_succ])
                    | (refine qv_call' (by rfl) ?_; apply Exists.intro; apply Exists.intro; apply Exists.intro; refine ⟨fun w5 hC => ?_, fun w5 hC => ?_, ?_⟩; (go_simp; first | rfl | exact ⟨rfl, rfl⟩); (go_at_call 16; exact calls_in hC (CU.out w5 hC)); simp only [Act.put, List.setIfInBounds_toArray, List.set_cons_zero, List.set_cons_succ]))
                  refine qv_nil ?_
                  intro w5 hC
                  have HFR5 := Lib.hid (HFR.out.below hC)
                  have hs5 := hC.size
                  have HB6' := Lib.hid (below_then HB5.out hC)
                  clear hC
                  go_wp2_with fail
                  go_roundw
                  case rel => exact ⟨p + 1, f, by go_num, by omega, by omega, HFR5.out, HE, HB6'.out, by omega⟩
                  case measure => simp [intOf]; omega
            · have hje : j = W.size + 1 := by omega
              subst hje
              have hx2 : ¬ ((S : Int) ≤ (W.size : Int)) := by omega
              go_wp2_with fail
              go_roundw
              case rel => exact ⟨i + 1, by go_num, by omega, below_then HB.out HBI.out⟩
              case measure => simp [intOf]; omega
        · have hie : i = W.size + 1 := by omega
          subst hie
          clear hSi hmk hS
          go_wp2_with fail
          go_ret
          exact ⟨rfl, below_then HB0.out (below_then HB6.out HB.out)⟩
end Go.Proofs.Ytmccdakmdcdbeaa
