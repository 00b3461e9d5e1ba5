/-
  Ij: the tree of a row of 'a's (the grammar that templelaw22's awake asks): plain. No program in sight.
  Ik: templelaw22.awake answers true.
-/
import Derived.Test.YtbidpeggdhkahaaGreatIi
import Derived.Test.YtbidpeggdhkahaaGreatG4
import Derived.Test.YtbidpeggdhkahaaGreatI7
set_option linter.unusedSimpArgs false
set_option linter.unusedVariables false
namespace Go.Proofs.YtbidpeggdhkahaaGreat
open Go.RowKit

def sA : Sym := ⟨-1, 97, 97⟩
def sS : Sym := ⟨0, 0, 0⟩
def nmSS : ByteArray := ⟨#[83]⟩
/-- S → 'a' S | "". -/
def gA : Gram := ⟨0, [nmSS], [⟨0, [⟨false, [sA, sS]⟩]⟩, ⟨0, [⟨false, []⟩]⟩]⟩
theorem gA_may : mayB gA = true := by decide +kernel
theorem gA_ref : ¬ RefG gA := by
  rintro (h | h)
  · rw [gA_may] at h; cases h
  · refine no_neg ?_ h
    decide
section
variable {R : Ky → Int} {W : ByteArray}
/-- What stands beneath a name's span. -/
theorem gA_ben (H : RkOK R gA W) {i j : Int} (h : 0 < R (nameKey 0 i j)) : (i < j ∧ btz W i = 97 ∧ 0 < R (nameKey 0 (i + 1) j) ∧ beneathB R gA W (nameKey 0 i j) = (0, [nameKey 0 (i + 1) j])) ∨ (i = j ∧ beneathB R gA W (nameKey 0 i j) = (1, [])) := by
  obtain ⟨r, x, hx, -, hH, -, -, hb, -⟩ := beneath_ok H h rfl
  match r, hx, hH, hb with
  | 0, hx, hH, hb =>
    have hx : some (⟨0, [⟨false, [sA, sS]⟩]⟩ : Rul) = some x := hx
    injection hx with hx
    subst hx
    have h0 := holdsK_at hH (c := 0) (y := ⟨false, [sA, sS]⟩) rfl rfl
    obtain ⟨g1, g2, g3, g4, g5⟩ := along_byte H (s := sA) h0 (by simp [ckey, seqKey]) rfl (by decide)
    obtain ⟨at', f1, f2, f3, f4, -, f5⟩ := along_split H (s := sS) g4 (by simp [seqKey]) rfl (by decide)
    obtain ⟨e1, e2⟩ := along_end H f4 (by simp [seqKey]) rfl
    have e1 : at' = j := e1
    subst e1
    refine .inl ⟨g1, ?_, f3, ?_⟩
    · have g2 : (97 : Int) ≤ btz W i := g2
      have g3 : btz W i ≤ 97 := g3
      omega
    · rw [hb]
      show ((0 : Int), [] ++ alongTo R gA W (65 + 1) (ckey 0 0 (nameKey 0 i at'))) = _
      rw [g5, f5, e2]
      rfl
  | 1, hx, hH, hb =>
    have hx : some (⟨0, [⟨false, []⟩]⟩ : Rul) = some x := hx
    injection hx with hx
    subst hx
    have h0 := holdsK_at hH (c := 0) (y := ⟨false, []⟩) rfl rfl
    obtain ⟨e1, e2⟩ := along_end H h0 (by simp [ckey, seqKey]) rfl
    refine .inr ⟨e1, ?_⟩
    rw [hb]
    show ((1 : Int), [] ++ alongTo R gA W 66 (ckey 1 0 (nameKey 0 i j))) = _
    rw [e2]
    rfl
  | r + 2, hx, _, _ => simp [gA] at hx
theorem gA_has0 (C : RkC R gA W) {i : Int} (h0 : 0 ≤ i) (h1 : i ≤ W.size) : 0 < R (nameKey 0 i i) := by
  refine C.name 1 ⟨0, [⟨false, []⟩]⟩ i i rfl h0 (Int.le_refl _) h1 fun c y hy => ?_
  match c, hy with
  | 0, hy =>
    have hy : some (⟨false, []⟩ : Conj) = some y := hy
    injection hy with hy
    subst hy
    have := C.fin 1 0 ⟨0, [⟨false, []⟩]⟩ ⟨false, []⟩ i rfl rfl h0 h1
    simpa using this
  | c + 1, hy => simp at hy
theorem gA_has (C : RkC R gA W) {i j : Int} (h0 : 0 ≤ i) (h1 : i < j) (h2 : j ≤ W.size) (hb : btz W i = 97) (h : 0 < R (nameKey 0 (i + 1) j)) : 0 < R (nameKey 0 i j) := by
  refine C.name 0 ⟨0, [⟨false, [sA, sS]⟩]⟩ i j rfl h0 (by omega) h2 fun c y hy => ?_
  match c, hy with
  | 0, hy =>
    have hy : some (⟨false, [sA, sS]⟩ : Conj) = some y := hy
    injection hy with hy
    subst hy
    have e3 := C.fin 0 0 _ ⟨false, [sA, sS]⟩ j rfl rfl (by omega) h2
    have e2 := C.split 0 0 1 _ ⟨false, [sA, sS]⟩ sS (i + 1) j j rfl rfl rfl (by decide) (by omega) (by omega) (Int.le_refl _) h2 h e3
    have e1 := C.byte 0 0 0 _ ⟨false, [sA, sS]⟩ sA i j rfl rfl rfl (by decide) h0 h1 h2 (by show (97 : Int) ≤ btz W i; omega) (by show btz W i ≤ 97; omega) e2
    have e1 : 0 < R (seqKey ⟨(0 : Nat), (0 : Nat), 0⟩ i j) := e1
    simpa using e1
  | c + 1, hy => simp at hy
end
def wAA : ByteArray := ⟨#[97, 97]⟩
def wB : ByteArray := ⟨#[98]⟩
theorem gA_tree {R : Ky → Int} (H : RkOK R gA wAA) (C : RkC R gA wAA) : 0 < R (nameKey gA.start 0 wAA.size) ∧ firstGo R gA wAA 4098 [] [nameKey gA.start 0 wAA.size] = some [⟨0, 0, 0, 2, 1⟩, ⟨0, 0, 1, 2, 1⟩, ⟨0, 1, 2, 2, 0⟩] := by
  have p2 := gA_has0 C (i := 2) (by decide) (by decide)
  have p1 := gA_has C (i := 1) (j := 2) (by decide) (by decide) (by decide) (by decide) p2
  have p0 := gA_has C (i := 0) (j := 2) (by decide) (by decide) (by decide) (by decide) p1
  have b2 := gA_ben H p2
  have b1 := gA_ben H p1
  have b0 := gA_ben H p0
  have b2 : beneathB R gA wAA (nameKey 0 2 2) = (1, []) := b2.elim (fun h => absurd h.1 (by decide)) (fun h => h.2)
  have b1 : beneathB R gA wAA (nameKey 0 1 2) = (0, [nameKey 0 2 2]) := b1.elim (fun h => h.2.2.2) (fun h => absurd h.1 (by decide))
  have b0 : beneathB R gA wAA (nameKey 0 0 2) = (0, [nameKey 0 1 2]) := b0.elim (fun h => h.2.2.2) (fun h => absurd h.1 (by decide))
  have t2 : treeOf R gA wAA (nameKey 0 2 2) = [⟨0, 1, 2, 2, 0⟩] := by rw [treeOf_eq H p2 rfl, brnOf, b2]; rfl
  have t1 : treeOf R gA wAA (nameKey 0 1 2) = [⟨0, 0, 1, 2, 1⟩, ⟨0, 1, 2, 2, 0⟩] := by rw [treeOf_eq H p1 rfl, brnOf, b1, List.flatMap_cons, t2]; rfl
  have t0 : treeOf R gA wAA (nameKey 0 0 2) = [⟨0, 0, 0, 2, 1⟩, ⟨0, 0, 1, 2, 1⟩, ⟨0, 1, 2, 2, 0⟩] := by rw [treeOf_eq H p0 rfl, brnOf, b0, List.flatMap_cons, t1]; rfl
  have hf : [nameKey 0 0 2].flatMap (treeOf R gA wAA) = [⟨0, 0, 0, 2, 1⟩, ⟨0, 0, 1, 2, 1⟩, ⟨0, 1, 2, 2, 0⟩] := by rw [List.flatMap_cons, t0]; rfl
  refine ⟨p0, ?_⟩
  have := firstGo_some H 4098 [] [nameKey 0 0 2] (fun q hq => by simp at hq; rw [hq]; exact ⟨rfl, p0⟩) (by rw [hf]; decide) (by rw [hf]; decide)
  rw [hf] at this
  exact this
theorem gA_none {R : Ky → Int} (H : RkOK R gA wB) : R (nameKey gA.start 0 wB.size) = 0 := by
  have h0 := H.lo (nameKey gA.start 0 wB.size)
  by_cases h : 0 < R (nameKey gA.start 0 wB.size)
  · exfalso
    rcases gA_ben H (i := 0) (j := 1) h with ⟨-, h2, -⟩ | ⟨h2, -⟩
    · revert h2; decide
    · revert h2; decide
  · omega
def g00 : Gram := ⟨0, [], []⟩
theorem g00_ref : RefG g00 := .inl (by decide +kernel)
end Go.Proofs.YtbidpeggdhkahaaGreat

set_option linter.unusedSimpArgs false
set_option linter.unusedVariables false
namespace Go.Proofs.YtbidpeggdhkahaaGreat
open Go.RowKit

def awObjs (n : Nat) : List Obj := [
  symO [sA], symO [sS],
  .cells #[.string ⟨#[83]⟩] 9 (0, 0),
  symO [sA, sS],
  .cells #[.bool false, .slice (some ⟨n + 3, 0, none⟩) 2 2] 50 (0, 0),
  .cells #[.bool false, .slice none 0 0] 50 (0, 0),
  .cells #[.int .i64 0, .slice (some ⟨n + 4, 0, none⟩) 1 1, .int .i64 0, .slice (some ⟨n + 5, 0, none⟩) 1 1] 47 (0, 0),
  .cells #[.int .i64 0, .slice (some ⟨n + 2, 0, none⟩) 1 1, .slice (some ⟨n + 6, 0, none⟩) 2 2] 25 (0, 0)]
theorem aw_lie (w : World) : Rd.str.C (allocs w (awObjs w.heap.size)) (some ⟨w.heap.size + 2, 0, none⟩) gA.names ∧ rulRd.C (allocs w (awObjs w.heap.size)) (some ⟨w.heap.size + 6, 0, none⟩) gA.rules ∧
    (allocs w (awObjs w.heap.size)).heap[w.heap.size + 7]? = some (.cells #[.int .i64 0, .slice (some ⟨w.heap.size + 2, 0, none⟩) 1 1, .slice (some ⟨w.heap.size + 6, 0, none⟩) 2 2] 25 (0, 0)) := by
  have H : ∀ k o, (awObjs w.heap.size)[k]? = some o → (allocs w (awObjs w.heap.size)).heap[w.heap.size + k]? = some o := fun k o h => allocs_heap _ _ _ _ h
  generalize allocs w (awObjs w.heap.size) = W at H
  have c3 := symO_C (H 3 _ rfl)
  have d4 : conjRd.C W (some ⟨w.heap.size + 4, 0, none⟩) [⟨false, [sA, sS]⟩] := C_blk [[.bool false, .slice (some ⟨w.heap.size + 3, 0, none⟩) 2 2]] (H 4 _ rfl) rfl ⟨⟨conjRd_mk (x := ⟨false, [sA, sS]⟩) (by decide) (by decide) c3, rfl⟩, trivial⟩
  have d5 : conjRd.C W (some ⟨w.heap.size + 5, 0, none⟩) [⟨false, []⟩] := C_blk [[.bool false, .slice none 0 0]] (H 5 _ rfl) rfl ⟨⟨conjRd_mk (x := ⟨false, []⟩) (by decide) (by decide) (Rd.C.nil _ _ _), rfl⟩, trivial⟩
  refine ⟨?_, ?_, H 7 _ rfl⟩
  · exact C_blk [[.string ⟨#[83]⟩]] (H 2 _ rfl) rfl ⟨⟨rfl, rfl⟩, trivial⟩
  · exact C_blk [[.int .i64 0, .slice (some ⟨w.heap.size + 4, 0, none⟩) 1 1], [.int .i64 0, .slice (some ⟨w.heap.size + 5, 0, none⟩) 1 1]] (H 6 _ rfl) rfl
      ⟨⟨rulRd_mk (x := ⟨0, [⟨false, [sA, sS]⟩]⟩) (by decide) (by decide) d4, rfl⟩, ⟨rulRd_mk (x := ⟨0, [⟨false, []⟩]⟩) (by decide) (by decide) d5, rfl⟩, trivial⟩
abbrev awT : List Brn := [⟨0, 0, 0, 2, 1⟩, ⟨0, 0, 1, 2, 1⟩, ⟨0, 1, 2, 2, 0⟩]
theorem aw_first {w w' : World} {e : Ending} (h : FirstPost w gA wAA e w') : Below w.heap.size w w' ∧ ∃ A c, e = .returned (.tuple #[.slice A 3 c, .int .i64 0]) ∧ 3 ≤ c ∧ c ≤ 9223372036854775807 ∧ brnRd.C w' A awT := by
  obtain ⟨hb, ⟨h1 | h1, -⟩ | ⟨-, -, N, P, V, h⟩⟩ := h
  · exact absurd h1 gA_ref
  · exact absurd h1 (by decide)
  · have M := mayG gA_may
    obtain ⟨t1, t2⟩ := gA_tree (rkOK M V) (rkC M V)
    refine ⟨hb, ?_⟩
    rcases h with ⟨h, -⟩ | ⟨-, h, -⟩ | ⟨-, bs, A, c, h, he, l1, l2, hC⟩
    · have h : rankV gA wAA N P (nameKey gA.start 0 wAA.size) = 0 := h
      omega
    · rw [t2] at h; cases h
    · rw [t2] at h
      injection h with h
      subst h
      exact ⟨A, c, he, l1, l2, hC⟩
theorem aw_second {w w' : World} {e : Ending} (h : FirstPost w gA wB e w') : Below w.heap.size w w' ∧ e = .returned (.tuple #[.slice none 0 0, .int .i64 2201]) := by
  obtain ⟨hb, ⟨h1 | h1, -⟩ | ⟨-, -, N, P, V, h⟩⟩ := h
  · exact absurd h1 gA_ref
  · exact absurd h1 (by decide)
  · have t1 := gA_none (rkOK (mayG gA_may) V)
    refine ⟨hb, ?_⟩
    rcases h with ⟨-, h⟩ | ⟨h, -⟩ | ⟨h, -⟩
    · exact h
    · have h : 0 < rankV gA wB N P (nameKey gA.start 0 wB.size) := h
      omega
    · have h : 0 < rankV gA wB N P (nameKey gA.start 0 wB.size) := h
      omega
theorem aw_third {w w' : World} {W : ByteArray} {e : Ending} (h : FirstPost w g00 W e w') : Below w.heap.size w w' ∧ e = .returned (.tuple #[.slice none 0 0, .int .i64 2200]) := by
  obtain ⟨hb, ⟨-, h⟩ | ⟨h, -⟩⟩ := h
  · exact ⟨hb, h⟩
  · exact absurd g00_ref h

set_option maxRecDepth 100000 in
set_option maxHeartbeats 4000000 in
theorem awake_any (w : World) : Calls Tryz.prog 13 #[] w fun e w' => e = .returned (.bool true) ∧ Below w.heap.size w w' := by
  obtain ⟨hN, hR, hG⟩ := aw_lie w
  have hb0 : Below w.heap.size w (allocs w (awObjs w.heap.size)) := allocs_below _ (below_refl w)
  go_enter Tryz.func13, Tryz.ntmps13
  go_upto_region 3 with fail
  change Code.wp _ _ _ _ (allocs w (awObjs w.heap.size))
  obtain ⟨n, hn⟩ : ∃ n, n = w.heap.size := ⟨_, rfl⟩
  rw [← hn] at hN hR hG hb0 ⊢
  generalize allocs w (awObjs n) = w0 at hN hR hG hb0 ⊢
  have HB0 := Lib.hid (show Below w.heap.size w w0 from hn ▸ hb0)
  have HG := Lib.hid hG
  have C1 := Lib.hid (show ∀ W1, Below w0.heap.size w0 W1 → Calls Tryz.prog 7 #[.agg #[.int .i64 0, .slice (some ⟨n + 2, 0, none⟩) 1 1, .slice (some ⟨n + 6, 0, none⟩) 2 2], .string ⟨#[97, 97]⟩] W1 (FirstPost W1 gA wAA) from fun W1 h1 => first_any gA wAA (Nat.le_refl 1) (by decide) (hN.mono h1) (Nat.le_refl 2) (by decide) (hR.mono h1))
  have C2 := Lib.hid (show ∀ W1, Below w0.heap.size w0 W1 → Calls Tryz.prog 7 #[.agg #[.int .i64 0, .slice (some ⟨n + 2, 0, none⟩) 1 1, .slice (some ⟨n + 6, 0, none⟩) 2 2], .string ⟨#[98]⟩] W1 (FirstPost W1 gA wB) from fun W1 h1 => first_any gA wB (Nat.le_refl 1) (by decide) (hN.mono h1) (Nat.le_refl 2) (by decide) (hR.mono h1))
  have C3 := Lib.hid (show ∀ W1, Calls Tryz.prog 7 #[.agg #[.int .i64 0, .slice none 0 0, .slice none 0 0], .string ⟨#[]⟩] W1 (FirstPost W1 g00 ⟨#[]⟩) from fun W1 => first_any g00 ⟨#[]⟩ (Nat.le_refl 0) (by decide) (Rd.C.nil _ _ _) (Nat.le_refl 0) (by decide) (Rd.C.nil _ _ _))
  have z0 : w0.cell? ⟨n + 7, 0, none⟩ = some (.int .i64 0) := blk_cell hG 0
  have z1 : w0.cell? ⟨n + 7, 1, none⟩ = some (.slice (some ⟨n + 2, 0, none⟩) 1 1) := blk_cell hG 1
  have z2 : w0.cell? ⟨n + 7, 2, none⟩ = some (.slice (some ⟨n + 6, 0, none⟩) 2 2) := blk_cell hG 2
  clear hn hb0 hN hR hG
  go_wp2_with (first
    | (go_at_call 7; (with_reducible refine (C1.out _ (below_refl _)).mono ?_); intro e w1 h1; obtain ⟨hb1, A1, c1, rfl, l1, l2, hC1⟩ := aw_first h1; have HC1 := Lib.hid hC1; have HB1 := Lib.hid hb1; have z0 := below_cell hb1 z0; have z1 := below_cell hb1 z1; have z2 := below_cell hb1 z2; clear h1 hb1 hC1)
    | (go_at_call 7; (with_reducible refine (C2.out _ HB1.out).mono ?_); intro e w2 h2; obtain ⟨hb2, rfl⟩ := aw_second h2; have HB2 := Lib.hid (below_then HB1.out hb2); have HC1 := Lib.hid (HC1.out.mono hb2); clear h2 hb2)
    | (go_at_call 7; (with_reducible refine (C3.out _).mono ?_); intro e w3 h3; obtain ⟨hb3, rfl⟩ := aw_third h3; have HB3 := Lib.hid (below_then HB2.out hb3); have HC1 := Lib.hid (HC1.out.mono hb3); clear h3 hb3)
    | (go_at_call 9; refine (same_brs (bs := awT) (HC1.out.mono (below_alloc' (below_refl _) _)) (C_blk [brnCs ⟨0, 0, 0, 2, 1⟩, brnCs ⟨0, 0, 1, 2, 1⟩, brnCs ⟨0, 1, 2, 2, 0⟩] (by exact heap_alloc_new w3 _) rfl ⟨⟨rfl, rfl⟩, ⟨rfl, rfl⟩, ⟨rfl, rfl⟩, trivial⟩) (by decide)).mono ?_; rintro e w4 ⟨rfl, hb4⟩; have HB4 := Lib.hid (below_then (below_then HB3.out (below_alloc' (below_refl _) _)) hb4); clear hb4)
    | (go_at_call 10; refine (num_any _ _).mono ?_; rintro e w5 ⟨rfl, rfl⟩)
    | fail)
  go_ret
  exact ⟨rfl, below_then HB0.out HB4.out⟩
end Go.Proofs.YtbidpeggdhkahaaGreat
