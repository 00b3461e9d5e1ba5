/-
  M8: mean.Copy.
-/
import Derived.Test.YtbidpeggdhkahaaA3
import Derived.Test.YtbidpeggdhkahaaA2
import Derived.Test.YtbidpeggdhkahaaMp
import Derived.Test.YtbidpeggdhkahaaProg
import Derived.WalkSpells
import Derived.Outline
import Derived.Deep.QuietTactic
import Derived.BigQuiet
import Derived.Lib.Hide
import Derived.RegionTactic
import Derived.ChangeAlike
import Derived.WalkLawsBesides
import Derived.Deep.RegionHeld3
import Derived.Deep.RegionLaw
import Derived.BigRegion
import Derived.Deep.DeepCutAuto
import Derived.KernelRfl
set_option linter.unusedSimpArgs false
set_option linter.unusedVariables false
namespace Go.Proofs.Ytbidpeggdhkahaa
open Go.RowKit


/-- Behind 'out := api.Grammar{..}'. -/
def CopyStart (w : World) (G : Gram) (A' : Option Addr) (c' : Nat) (s3 : Value) (wx : World) : Prop :=
  ∃ (b : Nat) (vn : Value), s3 = .pointer (some ⟨b, 0, none⟩) ∧ wx.heap[b]? = some (.cells #[.int .i64 G.start, vn, .slice none 0 0] 25 (0, 0)) ∧ (∃ base, Own Rd.str 9 base wx vn G.names) ∧ (∀ q, vn.ownBlock = some q → q ≠ b ∧ w.heap.size + 1 < q) ∧ Below w.heap.size w wx ∧
    wx.cell? ⟨w.heap.size, 2, none⟩ = some (.slice A' G.rules.length c') ∧ w.heap.size + 1 < b ∧ wx.heap[w.heap.size + 1]? = some (.cells #[.int .i64 0, .slice none 0 0, .slice none 0 0] 25 (0, 0))

def CopyOut (w : World) (G : Gram) (b B : Nat) (vn : Value) (cnt : Value) (wr : World) : Prop :=
  ∃ (k : Nat) (vr : Value), cnt = .int .i64 k ∧ k ≤ G.rules.length ∧ wr.heap[b]? = some (.cells #[.int .i64 G.start, vn, vr] 25 (0, 0)) ∧ Own rulRd 29 B wr vr (G.rules.take k) ∧ (∃ base, Own Rd.str 9 base wr vn G.names) ∧ (∀ q, vn.ownBlock = some q → q < B ∧ q ≠ b ∧ w.heap.size + 1 < q) ∧
    Below w.heap.size w wr ∧ wr.heap[w.heap.size + 1]? = some (.cells #[.int .i64 0, .slice none 0 0, .slice none 0 0] 25 (0, 0)) ∧ B ≤ wr.heap.size
def CopyIn (wo : World) (x : Rul) (cnt : Value) (wi : World) : Prop :=
  ∃ (k : Nat) (vc : Value), cnt = .int .i64 k ∧ k ≤ x.conj.length ∧ wi.heap[wo.heap.size + 1]? = some (.cells #[.int .i64 x.head, vc] 29 (0, 0)) ∧ Own conjRd 32 (wo.heap.size + 2) wi vc (x.conj.take k) ∧
    Below wo.heap.size wo wi ∧ wo.heap.size + 2 ≤ wi.heap.size

theorem copy_hy {w3 w4 : World} {y : Conj} {A3 : Option Addr} {k3 base : Nat} {e e' : TypeId} {v : Value} {xs : List Conj} (O4 : Own symRd e w3.heap.size w4 (.slice A3 y.seq.length k3) y.seq) (HO : Own conjRd e' base w3 v xs) (hb : base ≤ w3.heap.size) (o : Obj) :
    ∀ w', Upd (fun b => b < base ∨ v.ownBlock = some b) (w4.alloc o) w' → conjRd.K w' y (#[.bool y.neg, .slice A3 y.seq.length k3] : Array Value).toList := by
  intro w' hu
  have h := O4.rd_upd ((Upd.of_below (below_alloc' (below_refl w4) o)).trans hu) (fun b hb' => by
    rcases hb' with hb' | hb'
    · omega
    · exact (HO.base hb').2)
  obtain ⟨A, c, e1, h1, h2, h3⟩ := h
  injection e1 with e1 _
  injection e1 with e1 e2 e3
  subst e1; subst e3
  exact conjRd_mk h1 h2 h3

theorem copyIn_end {wo wr w3 w4 w5 : World} {x : Rul} {y : Conj} {k : Nat} {v vc : Value} {o : Obj} (hy : x.conj[k]? = some y) (h8 : Below wr.heap.size wr w3) (hi : Below wo.heap.size wo wr) (hB : wo.heap.size + 2 ≤ wr.heap.size)
    (h4 : Below w3.heap.size w3 w4) (hob : ∀ b, v.ownBlock = some b → wo.heap.size + 2 ≤ b ∧ b < wr.heap.size) (g5 : (w4.alloc o).grownBy w5 v.ownBlock) (o5 : Own conjRd 32 (wo.heap.size + 2) w5 vc (x.conj.take k ++ [y]))
    (q5 : w5.heap[wo.heap.size + 1]? = some (.cells #[.int .i64 x.head, v] 29 (0, 0))) :
    CopyIn wo x (.int .i64 ((k : Int) + 1)) (w5.setCell ⟨wo.heap.size + 1, 1, none⟩ vc) := by
  have hk : k < x.conj.length := (List.getElem?_eq_some_iff.1 hy).1
  have h34 : Below wo.heap.size wo (w4.alloc o) := below_then (below_then (below_then hi h8) h4) (below_alloc' (below_refl _) _)
  have h35 : Below wo.heap.size wo w5 := below_grown h34 g5 (fun b hb => by have := (hob b hb).1; omega)
  refine ⟨k + 1, vc, by go_num, hk, blk_set q5 1 vc, ?_, h35.setCell (by simp only; omega) _, ?_⟩
  · rw [take_snoc hy]
    exact o5.upd ((Upd.refl (fun b => b = wo.heap.size + 1) w5).setCell (p := ⟨wo.heap.size + 1, 1, none⟩) rfl vc) (fun b hb => by omega)
  · have := h34.size
    have := g5.size
    have h1 := h8.size
    have h2 := h4.size
    simp [World.setCell]
    simp at this
    omega

theorem copy_hy2 {wo wr : World} {x : Rul} {vc : Value} {e e' : TypeId} {B : Nat} {v : Value} {xs : List Rul} (OC : Own conjRd e (wo.heap.size + 2) wr vc x.conj) (XR : Own rulRd e' B wo v xs) (hb : B ≤ wo.heap.size) (o : Obj) :
    ∀ w', Upd (fun b => b < B ∨ v.ownBlock = some b) (wr.alloc o) w' → rulRd.K w' x (#[.int .i64 x.head, vc] : Array Value).toList := by
  intro w' hu
  have h := OC.rd_upd ((Upd.of_below (below_alloc' (below_refl wr) o)).trans hu) (fun b hb' => by
    rcases hb' with hb' | hb'
    · omega
    · have := (XR.base hb').2; omega)
  obtain ⟨A, c, e1, h1, h2, h3⟩ := h
  injection e1 with e1 _
  subst e1
  exact rulRd_mk h1 h2 h3
theorem copyOut_end {w wo wr w5 : World} {G : Gram} {x : Rul} {b B r : Nat} {vn v vr : Value} {o : Obj} (hx : G.rules[r]? = some x) (hi : Below wo.heap.size wo wr) (hbB : b < B) (hbw : w.heap.size + 1 < b) (hB : B ≤ wo.heap.size)
    (hob : ∀ b, v.ownBlock = some b → B ≤ b ∧ b < wo.heap.size) (g5 : (wr.alloc o).grownBy w5 v.ownBlock) (o5 : Own rulRd 29 B w5 vr (G.rules.take r ++ [x]))
    (q3 : wo.heap[b]? = some (.cells #[.int .i64 G.start, vn, v] 25 (0, 0))) (q2 : wo.heap[w.heap.size + 1]? = some (.cells #[.int .i64 0, .slice none 0 0, .slice none 0 0] 25 (0, 0)))
    (RN : ∃ base, Own Rd.str 9 base wo vn G.names) (RB : ∀ q, vn.ownBlock = some q → q < B ∧ q ≠ b ∧ w.heap.size + 1 < q) (XW : Below w.heap.size w wo) :
    CopyOut w G b B vn (.int .i64 ((r : Int) + 1)) (w5.setCell ⟨b, 2, none⟩ vr) := by
  have hr : r < G.rules.length := (List.getElem?_eq_some_iff.1 hx).1
  have h1 : Below wo.heap.size wo (wr.alloc o) := below_then hi (below_alloc' (below_refl _) _)
  have hne : ∀ k, k < B → some k ≠ v.ownBlock := fun k hk e => by have := (hob k e.symm).1; omega
  have q3' := blk_grown (blk_below q3 h1) g5 (hne b hbB)
  have q2' := blk_grown (blk_below q2 h1) g5 (hne _ (by omega))
  obtain ⟨base, RO⟩ := RN
  have hu : Upd (fun k => v.ownBlock = some k ∨ k = b) (wr.alloc o) (w5.setCell ⟨b, 2, none⟩ vr) := ((Upd.of_grown g5).mono (fun k hk => .inl hk)).setCell (p := ⟨b, 2, none⟩) (.inr rfl) vr
  have RO' := (RO.below h1).flat_upd flat_str hu (fun q hq e => by
    have := RB q hq
    rcases e with e | e
    · have := (hob q e).1; omega
    · omega)
  refine ⟨r + 1, vr, by go_num, hr, blk_set q3' 2 vr, ?_, ⟨base, RO'⟩, RB, ?_, ?_, ?_⟩
  · rw [take_snoc hx]
    exact o5.upd ((Upd.refl (fun k => k = b) w5).setCell (p := ⟨b, 2, none⟩) rfl vr) (fun k hk => by omega)
  · exact (below_grown (below_then XW h1) g5 (fun k hk => by have := (hob k hk).1; omega)).setCell (by simp only; omega) _
  · exact (Below.heap_setCell w5 ⟨b, 2, none⟩ vr _ (by simp only; omega)).trans q2'
  · have := h1.size
    have := g5.size
    simp [World.setCell]
    omega

def CopyPost (w : World) (G : Gram) (e : Ending) (w' : World) : Prop := ∃ cs : Array Value, e = .returned (.agg cs) ∧ (∀ w'', Upd (fun b => b < w.heap.size) w' w'' → gramRd.K w'' G cs.toList) ∧ Below w.heap.size w w'
theorem copy_end {w wr : World} {G : Gram} {B r : Nat} {A A' : Option Addr} {c c' : Nat} (hr : G.rules.take r = G.rules) (OR : Own rulRd 29 B wr (.slice A' G.rules.length c') (G.rules.take r)) (RN : ∃ base, Own Rd.str 9 base wr (.slice A G.names.length c) G.names)
    (q2 : wr.heap[w.heap.size + 1]? = some (.cells #[.int .i64 0, .slice none 0 0, .slice none 0 0] 25 (0, 0))) (hB : w.heap.size + 1 < B)
    (hn : ∀ q, (Value.slice A G.names.length c).ownBlock = some q → w.heap.size + 1 < q) : ∀ w'', Upd (fun b => b < w.heap.size) (((wr.setCell ⟨w.heap.size + 1, 0, none⟩ (.int .i64 G.start)).setCell ⟨w.heap.size + 1, 1, none⟩ (.slice A G.names.length c)).setCell ⟨w.heap.size + 1, 2, none⟩ (.slice A' G.rules.length c')) w'' →
    gramRd.K w'' G
      [.int .i64 G.start, .slice A G.names.length c, .slice A' G.rules.length c'] := by
  intro w'' huz
  have hu0 : Upd (fun b => b = w.heap.size + 1) wr (((wr.setCell ⟨w.heap.size + 1, 0, none⟩ (.int .i64 G.start)).setCell ⟨w.heap.size + 1, 1, none⟩ (.slice A G.names.length c)).setCell ⟨w.heap.size + 1, 2, none⟩ (.slice A' G.rules.length c')) :=
    Upd.setCell (Upd.setCell (Upd.setCell (Upd.refl (fun b => b = w.heap.size + 1) wr) (p := ⟨w.heap.size + 1, 0, none⟩) rfl _) (p := ⟨w.heap.size + 1, 1, none⟩) rfl _) (p := ⟨w.heap.size + 1, 2, none⟩) rfl _
  have hu : Upd (fun b => b ≤ w.heap.size + 1) wr w'' := (hu0.mono (fun b (hb : b = w.heap.size + 1) => Nat.le_of_eq hb)).trans (huz.mono (fun b (hb : b < w.heap.size) => by omega))
  obtain ⟨base, RO⟩ := RN
  obtain ⟨A1, c1, e1, h1, h2, h3⟩ := (RO.flat_upd flat_str hu (fun q hq hle => by have h1 := hn q hq; have h2 : q ≤ w.heap.size + 1 := hle; omega)).rd
  injection e1 with e1 _
  injection e1 with e1 e2 e3
  subst e1; subst e3
  rw [hr] at OR
  obtain ⟨A2, c2, e4, h4, h5, h6⟩ := OR.rd_upd hu (fun b (hb : b ≤ w.heap.size + 1) => by omega)
  injection e4 with e4 _
  injection e4 with e4 e5 e6
  subst e4; subst e6
  exact gramRd_mk h1 h2 h3 h4 h5 h6

theorem cs1 {w w0 w1 : World} {G : Gram} {A' : Option Addr} {c' : Nat} {vn x0 x1 : Value} (hb0 : Below w.heap.size w w0) (hb1 : Below w0.heap.size w0 w1) (o1 : Own Rd.str 9 (w.heap.size + 2) w1 vn G.names)
    (B0 : w0.heap[w.heap.size]? = some (.cells #[x0, x1, .slice A' G.rules.length c'] 25 (0, 0))) (B2 : w0.heap[w.heap.size + 1]? = some (.cells #[.int .i64 0, .slice none 0 0, .slice none 0 0] 25 (0, 0))) :
    CopyStart w G A' c' (.pointer (some ⟨w1.heap.size, 0, none⟩)) (w1.alloc (.cells #[.int .i64 G.start, vn, .slice none 0 0] 25)) := by
  have hb2 := below_alloc' (below_refl w1) (.cells #[.int .i64 G.start, vn, .slice none 0 0] 25)
  have h3 := below_then hb1 hb2
  exact ⟨_, vn, rfl, heap_alloc_new _ _, ⟨_, o1.below hb2⟩, fun q hq => ⟨Nat.ne_of_lt (o1.base hq).2, (o1.base hq).1⟩, below_then hb0 h3, blk_cell (blk_below B0 h3) 2, by have := blk_lt B2; have := hb1.size; omega, blk_below B2 h3⟩
theorem cs2 {w w0 w1 : World} {G : Gram} {A' : Option Addr} {c' : Nat} {vn x0 x1 : Value} (hb0 : Below w.heap.size w w0) (hb1 : Below w0.heap.size w0 w1) (o1 : Own Rd.str 9 (w.heap.size + 2) w1 vn G.names)
    (B0 : w0.heap[w.heap.size]? = some (.cells #[x0, x1, .slice A' G.rules.length c'] 25 (0, 0))) (B2 : w0.heap[w.heap.size + 1]? = some (.cells #[.int .i64 0, .slice none 0 0, .slice none 0 0] 25 (0, 0)))
    (Q1 : w1.heap[w0.heap.size]? = some (.cells #[.int .i64 0, .slice none 0 0, .slice none 0 0] 25 (0, 0))) (hne : ∀ b, vn.ownBlock = some b → b ≠ w0.heap.size) :
    CopyStart w G A' c' (.pointer (some ⟨w0.heap.size, 0, none⟩)) (((w1.setCell ⟨w0.heap.size, 0, none⟩ (.int .i64 G.start)).setCell ⟨w0.heap.size, 1, none⟩ vn).setCell ⟨w0.heap.size, 2, none⟩ (.slice none 0 0)) := by
  have e1 := blk_set (blk_set (blk_set Q1 0 (.int .i64 G.start)) 1 vn) 2 (.slice none 0 0)
  have hu : Upd (fun b => b = w0.heap.size) w1 (((w1.setCell ⟨w0.heap.size, 0, none⟩ (.int .i64 G.start)).setCell ⟨w0.heap.size, 1, none⟩ vn).setCell ⟨w0.heap.size, 2, none⟩ (.slice none 0 0)) :=
    Upd.setCell (Upd.setCell (Upd.setCell (Upd.refl (fun b => b = w0.heap.size) w1) (p := ⟨w0.heap.size, 0, none⟩) (show w0.heap.size = w0.heap.size from rfl) _) (p := ⟨w0.heap.size, 1, none⟩) (show w0.heap.size = w0.heap.size from rfl) _) (p := ⟨w0.heap.size, 2, none⟩) (show w0.heap.size = w0.heap.size from rfl) _
  have hl := blk_lt B2
  have h3 : Below w0.heap.size w0 (((w1.setCell ⟨w0.heap.size, 0, none⟩ (.int .i64 G.start)).setCell ⟨w0.heap.size, 1, none⟩ vn).setCell ⟨w0.heap.size, 2, none⟩ (.slice none 0 0)) :=
    ((hb1.setCell (Nat.le_refl _) _).setCell (Nat.le_refl _) _).setCell (Nat.le_refl _) _
  refine ⟨_, vn, rfl, e1, ⟨_, o1.flat_upd flat_str hu hne⟩, fun q hq => ⟨hne q hq, (o1.base hq).1⟩, below_then hb0 h3, blk_cell (blk_below B0 h3) 2, by omega, blk_below B2 h3⟩

set_option maxRecDepth 100000 in
set_option maxHeartbeats 2000000 in
theorem copy_any {w : World} (G : Gram) {A A' : Option Addr} {c c' : Nat} (n1 : G.names.length ≤ c) (n2 : c ≤ 9223372036854775807) (n3 : Rd.str.C w A G.names) (n4 : G.rules.length ≤ c') (n5 : c' ≤ 9223372036854775807) (n6 : rulRd.C w A' G.rules)
    (h1 : G.names.length ≤ 64) (h2 : G.rules.length ≤ 256) (h3 : ∀ x ∈ G.rules, x.conj.length ≤ 8 ∧ ∀ y ∈ x.conj, y.seq.length ≤ 64) :
    Calls Try.prog 24 #[.agg #[.int .i64 G.start, .slice A G.names.length c, .slice A' G.rules.length c']] w (CopyPost w G) := by
  go_enter Try.func24, Try.ntmps24
  go_wp2_with fail
  have b0 := heap_alloc2_old w (Obj.cells #[Value.int IntKind.i64 G.start, Value.slice A G.names.length c, Value.slice A' G.rules.length c'] 25) (Obj.cells #[Value.int IntKind.i64 0, Value.slice none 0 0, Value.slice none 0 0] 25)
  have b2 := heap_alloc2_new w (Obj.cells #[Value.int IntKind.i64 G.start, Value.slice A G.names.length c, Value.slice A' G.rules.length c'] 25) (Obj.cells #[Value.int IntKind.i64 0, Value.slice none 0 0, Value.slice none 0 0] 25)
  have hb0 : Below w.heap.size w ((w.alloc (Obj.cells #[Value.int IntKind.i64 G.start, Value.slice A G.names.length c, Value.slice A' G.rules.length c'] 25)).alloc (Obj.cells #[Value.int IntKind.i64 0, Value.slice none 0 0, Value.slice none 0 0] 25)) := below_alloc' (below_alloc' (below_refl _) _) _
  generalize (w.alloc (Obj.cells #[Value.int IntKind.i64 G.start, Value.slice A G.names.length c, Value.slice A' G.rules.length c'] 25)).alloc (Obj.cells #[Value.int IntKind.i64 0, Value.slice none 0 0, Value.slice none 0 0] 25) = w0 at b0 b2 hb0 ⊢
  have c0 : w0.cell? ⟨w.heap.size, 0, none⟩ = some (.int .i64 G.start) := blk_cell b0 0
  have c1 : w0.cell? ⟨w.heap.size, 1, none⟩ = some (.slice A G.names.length c) := blk_cell b0 1
  have hs0 : w.heap.size + 1 < w0.heap.size := blk_lt b2
  have N3 := Lib.hid (n3.mono hb0)
  have N6 := Lib.hid n6
  have HB0 := Lib.hid hb0
  have BB0 := Lib.hid b0
  have BB2 := Lib.hid b2
  clear n3 n6 hb0 b0 b2
  go_cut [3] (fun s3 wx => CopyStart w G A' c' s3 wx)
  case first =>
    go_region_held3 (fun w' => w'.cell? ⟨w.heap.size, 0, none⟩ = some (.int .i64 G.start) ∧ w'.cell? ⟨w.heap.size, 1, none⟩ = some (.slice A G.names.length c)) (((try simp only [World.cell?_drew]); first | with_reducible exact ⟨c0, c1⟩ | with_reducible exact ⟨d0, d1⟩ | ((with_reducible refine ⟨keep_set (keep_set (keep_set d0 ?_) ?_) ?_, keep_set (keep_set (keep_set d1 ?_) ?_) ?_⟩) <;> (simp only; omega)) | ((with_reducible refine ⟨below_cell (w := w1) ?_ d0, below_cell (w := w1) ?_ d1⟩) <;> (repeat (first | exact below_refl _ | apply below_alloc' | apply below_drew')); done) | ((with_reducible refine ⟨below_cell (w := w0) ?_ c0, below_cell (w := w0) ?_ c1⟩) <;> (repeat (first | exact below_refl _ | apply below_alloc' | apply below_drew')); done)))
      (first | ((refine step_append_flat (d := Rd.str) (base := w.heap.size + 2) (by rfl) _ _ 22 9 _ 16 (by rfl) Try.underlying22 infoStr (by rfl) (by decide) (v := .slice none 0 0) (xs := []) (ys := G.names) (by rfl) (Own.nil _ _ _ _) flat_str (A := A) (c := c) (by rfl) (N3.out.mono (by repeat (first | exact below_refl _ | apply below_alloc' | apply below_drew'))) (by simp; omega) (by decide) (by simp; omega) ?_); intro v1 w1 o1 g1 t1; obtain ⟨A1, k1, rfl, -, -, -⟩ := o1.shape; (try (have q1 : w1.heap[w0.heap.size]? = some (.cells #[.int .i64 0, .slice none 0 0, .slice none 0 0] 25 (0, 0)) := (g1.block w0.heap.size (by simp) (by simp [Value.ownBlock])).trans (heap_alloc_new w0 _); have z1 := blk_cell q1 0; have z2 := blk_cell q1 1; have z3 := blk_cell q1 2; have y1 := blk_frozen q1 0; have y2 := blk_frozen q1 1; have y3 := blk_frozen q1 2; simp at z1 z2 z3; have Q1 := Lib.hid q1; have T1 : Hid (∀ b, (Value.slice A1 ([] ++ G.names).length k1).ownBlock = some b → b ≠ w0.heap.size) := (by intro b hb; rcases t1 with t1 | t1 <;> (rw [t1] at hb; simp [Value.ownBlock] at hb; try omega)); clear q1)); have hb1 : Below w0.heap.size w0 w1 := below_grown (by repeat (first | exact below_refl _ | apply below_alloc' | apply below_drew')) g1 (by simp [Value.ownBlock]); have d0 := below_cell hb1 c0; have d1 := below_cell hb1 c1; have HB1 := Lib.hid hb1; have O1 := Lib.hid o1; have hs1 := hb1.size; clear o1 g1 t1 hb1))
    · go_wp2_with fail
      go_meet
      exact cs1 HB0.out HB1.out O1.out BB0.out BB2.out
    · go_wp2_with fail
      go_meet
      exact cs2 HB0.out HB1.out O1.out BB0.out BB2.out Q1.out T1.out
  case rest =>
    obtain ⟨b, vn, rfl, B3, RN, RB, hb1, c2, hbw, B2⟩ := hcut
    have LB := blk_lt B3
    have HC := Lib.hid N6.out
    obtain ⟨B, hB⟩ : ∃ B, B = wc.heap.size := ⟨_, rfl⟩
    have LB' : b < B := by omega
    have HB' : Hid (B ≤ wc.heap.size) := by exact Nat.le_of_eq hB
    have X3 := Lib.hid B3
    have X2 := Lib.hid B2
    have XN := Lib.hid RN
    have XB : Hid (∀ q, vn.ownBlock = some q → q < B ∧ q ≠ b ∧ w.heap.size + 1 < q) := fun q hq => ⟨by obtain ⟨_, RO⟩ := RN; have := (RO.base hq).2; omega, RB q hq⟩
    have XW := Lib.hid hb1
    clear B3 B2 RN RB hb1 N3 N6 HB0 BB0 BB2 c0 c1 hB LB hs0
    go_wp2_with fail
    go_loopw [18] (fun cnt wr => CopyOut w G b B vn cnt wr) (fun cnt _ => G.rules.length - (intOf cnt).toNat)
    case atStart => exact ⟨0, _, rfl, Nat.zero_le _, X3.out, by simpa using Own.nil _ _ _ _, XN.out, XB.out, XW.out, X2.out, HB'.out⟩
    case round =>
      clear X3 X2 XN XB XW HB' c2
      obtain ⟨r, vr, rfl, hr, B3, OR, RN, RB, hb1, B2, hBs⟩ := hrel
      have XB := Lib.hid RB
      have X3 := Lib.hid B3
      have X2 := Lib.hid B2
      have XN := Lib.hid RN
      have XW := Lib.hid hb1
      have XR := Lib.hid OR
      have HBs := Lib.hid hBs
      clear B3 B2 RN RB hb1 OR hBs
      by_cases hlt : r < G.rules.length
      · have hx : G.rules[r]? = some G.rules[r] := List.getElem?_eq_getElem hlt
        have hxm : G.rules[r] ∈ G.rules := List.getElem_mem hlt
        obtain ⟨x, hxe⟩ : ∃ x, x = G.rules[r] := ⟨_, rfl⟩
        rw [← hxe] at hx hxm
        clear hxe
        obtain ⟨ad, A1, c1, eA, lad, q0, q1, l1, l2, hCC⟩ := rul_at (HC.out.mono XW.out) hx
        subst eA
        have hx3 := h3 x hxm
        have HX3 := Lib.hid hx3.2
        have hx8 := hx3.1
        have HX := Lib.hid hx
        have HCC := Lib.hid hCC
        have b1 : (r : Int) < G.rules.length := by omega
        clear hx3 hxm hCC hx
        go_wp2_with fail
        have y6 := heap_alloc2_new wr (Obj.cells #[Value.int .i64 x.head, Value.slice A1 x.conj.length c1] 29) (Obj.cells #[Value.int .i64 x.head, Value.slice none 0 0] 29)
        have hb2 : Below wr.heap.size wr ((wr.alloc (Obj.cells #[Value.int .i64 x.head, Value.slice A1 x.conj.length c1] 29)).alloc (Obj.cells #[Value.int .i64 x.head, Value.slice none 0 0] 29)) := below_alloc' (below_alloc' (below_refl _) _) _
        generalize (wr.alloc (Obj.cells #[Value.int .i64 x.head, Value.slice A1 x.conj.length c1] 29)).alloc (Obj.cells #[Value.int .i64 x.head, Value.slice none 0 0] 29) = w2 at y6 hb2 ⊢
        have Y6 := Lib.hid y6
        have HB2 := Lib.hid hb2
        have hs2 : wr.heap.size + 2 ≤ w2.heap.size := blk_lt y6
        clear y6 hb2 q0 q1
        obtain ⟨wo, rfl⟩ : ∃ wo : World, wo = wr := ⟨_, rfl⟩
        go_loopw [28] (fun cnt wi => CopyIn wo x cnt wi) (fun cnt _ => x.conj.length - (intOf cnt).toNat)
        case atStart => exact ⟨0, _, rfl, Nat.zero_le _, Y6.out, by simpa using Own.nil _ _ _ _, HB2.out, hs2⟩
        case round =>
          clear Y6 HB2 hs2
          obtain ⟨k, vc, rfl, hk, B6, OC, hbi, hBi⟩ := hrel
          by_cases hltk : k < x.conj.length
          · have hy : x.conj[k]? = some x.conj[k] := List.getElem?_eq_getElem hltk
            have hym : x.conj[k] ∈ x.conj := List.getElem_mem hltk
            obtain ⟨y, hye⟩ : ∃ y, y = x.conj[k] := ⟨_, rfl⟩
            rw [← hye] at hy hym
            clear hye
            obtain ⟨ca, A2, c2, eA1, lca, p0, p1, l3, l4, hSC⟩ := conj_at (HCC.out.mono hbi) hy
            subst eA1
            have hseq := HX3.out y hym
            obtain ⟨Av, kv, ev, -, -, -⟩ := OC.shape
            have hlen : (x.conj.take k).length = k := by simp; omega
            have hlen5 : (x.conj.take k ++ [y]).length = k + 1 := by simp; omega
            rw [hlen] at ev
            subst ev
            have HL5 := Lib.hid hlen5
            have HLN := Lib.hid hlen
            clear hlen hlen5
            have b2 : (k : Int) < x.conj.length := by omega
            have HY := Lib.hid hy
            have HSC := Lib.hid hSC
            clear hym hSC hy
            go_wp2_with fail
            have y8 := heap_alloc_new wr (Obj.cells #[Value.bool y.neg, Value.slice A2 y.seq.length c2] 32)
            have hb8 : Below wr.heap.size wr (wr.alloc (Obj.cells #[Value.bool y.neg, Value.slice A2 y.seq.length c2] 32)) := below_alloc' (below_refl _) _
            generalize (wr.alloc (Obj.cells #[Value.bool y.neg, Value.slice A2 y.seq.length c2] 32)) = w3 at y8 hb8 ⊢
            have B6' := blk_below B6 hb8
            have s6 : w3.cell? ⟨wo.heap.size + 1, 1, none⟩ = some (.slice Av k kv) := blk_cell B6' 1
            have s80 : w3.cell? ⟨wr.heap.size, 0, none⟩ = some (.bool y.neg) := blk_cell y8 0
            have s81 : w3.cell? ⟨wr.heap.size, 1, none⟩ = some (.slice A2 y.seq.length c2) := blk_cell y8 1
            have hs3 : wr.heap.size < w3.heap.size := blk_lt y8
            have H6 := Lib.hid B6'
            have H8 := Lib.hid hb8
            have HI := Lib.hid hbi
            have HO := Lib.hid (OC.below hb8)
            have HOB : Hid (∀ b, (Value.slice Av k kv).ownBlock = some b → wo.heap.size + 2 ≤ b ∧ b < wr.heap.size) := fun b hb => OC.base hb
            have HQ := Lib.hid (HSC.out.mono hb8)
            clear B6 B6' y8 hb8 hbi OC p0 p1
            go_region_law
                (first | ((refine step_append_flat (d := symRd) (base := w3.heap.size) (by rfl) (.const (.slice none 0 0)) (.tmp 37) 30 44 _ 24 (by rfl) Try.underlying30 infoSym (by rfl) (by decide) (v := .slice none 0 0) (xs := []) (ys := y.seq) (by rfl) (Own.nil _ _ _ _) flat_sym (A := A2) (c := c2) (by rfl) (HQ.out.mono (below_drew w3)) (by simp; omega) (by decide) (by simp) ?_); intro v4 w4 o4 g4 t4; rw [List.nil_append] at o4; obtain ⟨A3, k3, rfl, -, -, -⟩ := o4.shape; have hb4 : Below w3.heap.size w3 w4 := below_grown (below_drew w3) g4 (by simp [Value.ownBlock]); have t6 := below_cell hb4 s6; have t80 := below_cell hb4 s80; have t81 := below_cell hb4 s81; have HB4 := Lib.hid hb4; have O4 := Lib.hid o4; have hs4 := hb4.size; have lt6 : wo.heap.size + 1 < w4.heap.size := (by omega); have lt8 : wr.heap.size < w4.heap.size := (by omega); clear o4 g4 t4 hb4) | ((refine step_append_one (d := conjRd) (base := wo.heap.size + 2) (by rfl) (.tmp 33) (.tmp 40) 27 32 _ 32 (by rfl) Try.underlying27 infoConj (by rfl) (by decide) (v := .slice Av k kv) (xs := x.conj.take k) (by rfl) ((HO.out.below HB4.out).below (below_alloc' (below_refl _) _)) y #[.bool y.neg, .slice A3 y.seq.length k3] (copy_hy O4.out HO.out (by omega) _) (b := w4.heap.size) (c := 1) (by rfl) (heap_alloc_new w4 _) (by rw [HLN.out]; omega) (by decide) (by simp; omega) ?_); intro v5 w5 o5 g5 t5; obtain ⟨A5, k5, ev5, -, -, -⟩ := o5.shape; rw [HL5.out] at ev5; subst ev5; have q6 := blk_grown (blk_below (blk_below H6.out HB4.out) (below_alloc' (below_refl _) _)) g5 (by intro e; have := (HOB.out _ e.symm).1; omega); have u6 := blk_cell q6 1; have f6 := blk_frozen q6 1; have H65 := Lib.hid q6; have O5 := Lib.hid o5; have G5 := Lib.hid g5; clear o5 g5 t5 q6))
            all_goals
              go_wp2_with fail
              go_roundw
              case rel => exact copyIn_end HY.out H8.out HI.out hBi HB4.out HOB.out G5.out O5.out H65.out
              case measure => simp [intOf]; omega
          · have hkl : x.conj.take k = x.conj := List.take_of_length_le (by omega)
            rw [hkl] at OC
            clear hkl
            obtain ⟨Av, kv, rfl, -, -, -⟩ := OC.shape
            have XR' := XR.out
            obtain ⟨Ar, kr, er, -, -, -⟩ := XR'.shape
            have hlen : (G.rules.take r).length = r := by simp; omega
            have hlen5 : (G.rules.take r ++ [x]).length = r + 1 := by simp; omega
            rw [hlen] at er
            subst er
            have HL5 := Lib.hid hlen5
            have HLN := Lib.hid hlen
            have q3 := blk_below X3.out hbi
            have s3 : wr.cell? ⟨b, 2, none⟩ = some (.slice Ar r kr) := blk_cell q3 2
            have s60 : wr.cell? ⟨wo.heap.size + 1, 0, none⟩ = some (.int .i64 x.head) := blk_cell B6 0
            have s61 : wr.cell? ⟨wo.heap.size + 1, 1, none⟩ = some (.slice Av x.conj.length kv) := blk_cell B6 1
            have hbb : b < wr.heap.size := blk_lt q3
            have HI := Lib.hid hbi
            have OCH := Lib.hid OC
            have XRH := Lib.hid (XR'.below hbi)
            have HOB : Hid (∀ q, (Value.slice Ar r kr).ownBlock = some q → B ≤ q ∧ q < wo.heap.size) := fun q hq => XR'.base hq
            have X3' := Lib.hid X3.out
            clear hlen hlen5 q3 B6 hbi OC XR'
            go_wp2_with (at_builtin; refine wpList_append_one (d := rulRd) rfl (base := B) (.tmp 45) (.tmp 47) 23 29 _ 32 (by rfl) Try.underlying23 infoRul (by rfl) (by decide) (v := .slice Ar r kr) (xs := G.rules.take r) (by rfl) (XRH.out.below (below_alloc' (below_refl _) _)) x #[.int .i64 x.head, .slice Av x.conj.length kv] (copy_hy2 OCH.out XR.out HBs.out _) (b := wr.heap.size) (c := 1) (by rfl) (heap_alloc_new wr _) (by rw [HLN.out]; omega) (by decide) (by have := HBs.out; simp; omega) ?_; intro v5 w5 o5 g5 t5; obtain ⟨A5, k5, ev5, -, -, -⟩ := o5.shape; rw [HL5.out] at ev5; subst ev5; have q5 := blk_grown (blk_below (blk_below X3'.out HI.out) (below_alloc' (below_refl _) _)) g5 (by intro e; have := (HOB.out _ e.symm).1; omega); have u3 := blk_cell q5 2; have f3 := blk_frozen q5 2; have O5 := Lib.hid o5; have G5 := Lib.hid g5; clear o5 g5 t5 q5)
            go_roundw
            case rel => exact copyOut_end HX.out HI.out LB' hbw HBs.out HOB.out G5.out O5.out X3.out X2.out XN.out XB.out XW.out
            case measure => simp [intOf]; omega
      · have hkl : G.rules.take r = G.rules := List.take_of_length_le (by omega)
        have XR' := XR.out
        obtain ⟨Ar, kr, er, -, -, -⟩ := XR'.shape
        rw [hkl] at er
        subst er
        obtain ⟨base, RO⟩ := XN.out
        obtain ⟨An, kn, rfl, -, -, -⟩ := RO.shape
        have s0 : wr.cell? ⟨b, 0, none⟩ = some (.int .i64 G.start) := blk_cell X3.out 0
        have s1 : wr.cell? ⟨b, 1, none⟩ = some (.slice An G.names.length kn) := blk_cell X3.out 1
        have s2 : wr.cell? ⟨b, 2, none⟩ = some (.slice Ar G.rules.length kr) := blk_cell X3.out 2
        have z0 : wr.cell? ⟨w.heap.size + 1, 0, none⟩ = some (.int .i64 0) := blk_cell X2.out 0
        have z1 : wr.cell? ⟨w.heap.size + 1, 1, none⟩ = some (.slice none 0 0) := blk_cell X2.out 1
        have z2 : wr.cell? ⟨w.heap.size + 1, 2, none⟩ = some (.slice none 0 0) := blk_cell X2.out 2
        have y0 := blk_frozen X2.out 0
        have y1 := blk_frozen X2.out 1
        have y2 := blk_frozen X2.out 2
        have HKL := Lib.hid hkl
        have HRO := Lib.hid RO
        clear hkl RO XR'
        go_wp2
        refine bodyPost_ret (v := .agg #[.int .i64 G.start, .slice An G.names.length kn, .slice Ar G.rules.length kr]) (by simp [results, Try.results24, go_sem, World.cell?_setCell_same, World.cell?_setCell_other, z0, z1, z2]) rfl ?_
        refine ⟨_, rfl, copy_end HKL.out XR.out ⟨_, HRO.out⟩ X2.out (by omega) (fun q hq => (XB.out q hq).2.2), ((XW.out.setCell ?_ _).setCell ?_ _).setCell ?_ _⟩ <;> (simp only; omega)
end Go.Proofs.Ytbidpeggdhkahaa
