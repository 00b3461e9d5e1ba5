/-
  Ik: templelaw22.awake answers true.
-/
import Derived.Test.YtbidpeggdhkahaaIh
import Derived.Test.YtbidpeggdhkahaaIj
import Derived.Test.YtbidpeggdhkahaaA4
set_option linter.unusedSimpArgs false
set_option linter.unusedVariables false
namespace Go.Proofs.Ytbidpeggdhkahaa
open Go.RowKit

def awObjs (n : Nat) : List Obj := [
  symO [sA], symO [sS],
  .cells #[.string ⟨#[83]⟩] 9 (0, 0),
  symO [sA, sS],
  .cells #[.bool false, .slice (some ⟨n + 3, 0, none⟩) 2 2] 32 (0, 0),
  .cells #[.bool false, .slice none 0 0] 32 (0, 0),
  .cells #[.int .i64 0, .slice (some ⟨n + 4, 0, none⟩) 1 1, .int .i64 0, .slice (some ⟨n + 5, 0, none⟩) 1 1] 29 (0, 0),
  .cells #[.int .i64 0, .slice (some ⟨n + 2, 0, none⟩) 1 1, .slice (some ⟨n + 6, 0, none⟩) 2 2] 25 (0, 0)]
theorem aw_lie (w : World) : Rd.str.C (allocs w (awObjs w.heap.size)) (some ⟨w.heap.size + 2, 0, none⟩) gA.names ∧ rulRd.C (allocs w (awObjs w.heap.size)) (some ⟨w.heap.size + 6, 0, none⟩) gA.rules ∧
    (allocs w (awObjs w.heap.size)).heap[w.heap.size + 7]? = some (.cells #[.int .i64 0, .slice (some ⟨w.heap.size + 2, 0, none⟩) 1 1, .slice (some ⟨w.heap.size + 6, 0, none⟩) 2 2] 25 (0, 0)) := by
  have H : ∀ k o, (awObjs w.heap.size)[k]? = some o → (allocs w (awObjs w.heap.size)).heap[w.heap.size + k]? = some o := fun k o h => allocs_heap _ _ _ _ h
  generalize allocs w (awObjs w.heap.size) = W at H
  have c3 := symO_C (H 3 _ rfl)
  have d4 : conjRd.C W (some ⟨w.heap.size + 4, 0, none⟩) [⟨false, [sA, sS]⟩] := C_blk [[.bool false, .slice (some ⟨w.heap.size + 3, 0, none⟩) 2 2]] (H 4 _ rfl) rfl ⟨⟨conjRd_mk (x := ⟨false, [sA, sS]⟩) (by decide) (by decide) c3, rfl⟩, trivial⟩
  have d5 : conjRd.C W (some ⟨w.heap.size + 5, 0, none⟩) [⟨false, []⟩] := C_blk [[.bool false, .slice none 0 0]] (H 5 _ rfl) rfl ⟨⟨conjRd_mk (x := ⟨false, []⟩) (by decide) (by decide) (Rd.C.nil _ _ _), rfl⟩, trivial⟩
  refine ⟨?_, ?_, H 7 _ rfl⟩
  · exact C_blk [[.string ⟨#[83]⟩]] (H 2 _ rfl) rfl ⟨⟨rfl, rfl⟩, trivial⟩
  · exact C_blk [[.int .i64 0, .slice (some ⟨w.heap.size + 4, 0, none⟩) 1 1], [.int .i64 0, .slice (some ⟨w.heap.size + 5, 0, none⟩) 1 1]] (H 6 _ rfl) rfl
      ⟨⟨rulRd_mk (x := ⟨0, [⟨false, [sA, sS]⟩]⟩) (by decide) (by decide) d4, rfl⟩, ⟨rulRd_mk (x := ⟨0, [⟨false, []⟩]⟩) (by decide) (by decide) d5, rfl⟩, trivial⟩
abbrev awT : List Brn := [⟨0, 0, 0, 2, 1⟩, ⟨0, 0, 1, 2, 1⟩, ⟨0, 1, 2, 2, 0⟩]
theorem aw_first {w w' : World} {e : Ending} (h : FirstPost w gA wAA e w') : Below w.heap.size w w' ∧ ∃ A c, e = .returned (.tuple #[.slice A 3 c, .int .i64 0]) ∧ 3 ≤ c ∧ c ≤ 9223372036854775807 ∧ brnRd.C w' A awT := by
  obtain ⟨hb, ⟨h1 | h1, -⟩ | ⟨-, -, N, P, V, h⟩⟩ := h
  · exact absurd h1 gA_ref
  · exact absurd h1 (by decide)
  · have M := mayG gA_may
    obtain ⟨t1, t2⟩ := gA_tree (rkOK M V) (rkC M V)
    refine ⟨hb, ?_⟩
    rcases h with ⟨h, -⟩ | ⟨-, h, -⟩ | ⟨-, bs, A, c, h, he, l1, l2, hC⟩
    · have h : rankV gA wAA N P (nameKey gA.start 0 wAA.size) = 0 := h
      omega
    · rw [t2] at h; cases h
    · rw [t2] at h
      injection h with h
      subst h
      exact ⟨A, c, he, l1, l2, hC⟩
theorem aw_second {w w' : World} {e : Ending} (h : FirstPost w gA wB e w') : Below w.heap.size w w' ∧ e = .returned (.tuple #[.slice none 0 0, .int .i64 2201]) := by
  obtain ⟨hb, ⟨h1 | h1, -⟩ | ⟨-, -, N, P, V, h⟩⟩ := h
  · exact absurd h1 gA_ref
  · exact absurd h1 (by decide)
  · have t1 := gA_none (rkOK (mayG gA_may) V)
    refine ⟨hb, ?_⟩
    rcases h with ⟨-, h⟩ | ⟨h, -⟩ | ⟨h, -⟩
    · exact h
    · have h : 0 < rankV gA wB N P (nameKey gA.start 0 wB.size) := h
      omega
    · have h : 0 < rankV gA wB N P (nameKey gA.start 0 wB.size) := h
      omega
theorem aw_third {w w' : World} {W : ByteArray} {e : Ending} (h : FirstPost w g00 W e w') : Below w.heap.size w w' ∧ e = .returned (.tuple #[.slice none 0 0, .int .i64 2200]) := by
  obtain ⟨hb, ⟨-, h⟩ | ⟨h, -⟩⟩ := h
  · exact ⟨hb, h⟩
  · exact absurd g00_ref h

set_option maxRecDepth 100000 in
set_option maxHeartbeats 4000000 in
theorem awake_any (w : World) : Calls Try.prog 7 #[] w fun e w' => e = .returned (.bool true) ∧ Below w.heap.size w w' := by
  obtain ⟨hN, hR, hG⟩ := aw_lie w
  have hb0 : Below w.heap.size w (allocs w (awObjs w.heap.size)) := allocs_below _ (below_refl w)
  go_enter Try.func7, Try.ntmps7
  go_upto_region 3 with fail
  change Code.wp _ _ _ _ (allocs w (awObjs w.heap.size))
  obtain ⟨n, hn⟩ : ∃ n, n = w.heap.size := ⟨_, rfl⟩
  rw [← hn] at hN hR hG hb0 ⊢
  generalize allocs w (awObjs n) = w0 at hN hR hG hb0 ⊢
  have HB0 := Lib.hid (show Below w.heap.size w w0 from hn ▸ hb0)
  have HG := Lib.hid hG
  have C1 := Lib.hid (show ∀ W1, Below w0.heap.size w0 W1 → Calls Try.prog 8 #[.agg #[.int .i64 0, .slice (some ⟨n + 2, 0, none⟩) 1 1, .slice (some ⟨n + 6, 0, none⟩) 2 2], .string ⟨#[97, 97]⟩] W1 (FirstPost W1 gA wAA) from fun W1 h1 => first_any gA wAA (Nat.le_refl 1) (by decide) (hN.mono h1) (Nat.le_refl 2) (by decide) (hR.mono h1))
  have C2 := Lib.hid (show ∀ W1, Below w0.heap.size w0 W1 → Calls Try.prog 8 #[.agg #[.int .i64 0, .slice (some ⟨n + 2, 0, none⟩) 1 1, .slice (some ⟨n + 6, 0, none⟩) 2 2], .string ⟨#[98]⟩] W1 (FirstPost W1 gA wB) from fun W1 h1 => first_any gA wB (Nat.le_refl 1) (by decide) (hN.mono h1) (Nat.le_refl 2) (by decide) (hR.mono h1))
  have C3 := Lib.hid (show ∀ W1, Calls Try.prog 8 #[.agg #[.int .i64 0, .slice none 0 0, .slice none 0 0], .string ⟨#[]⟩] W1 (FirstPost W1 g00 ⟨#[]⟩) from fun W1 => first_any g00 ⟨#[]⟩ (Nat.le_refl 0) (by decide) (Rd.C.nil _ _ _) (Nat.le_refl 0) (by decide) (Rd.C.nil _ _ _))
  have z0 : w0.cell? ⟨n + 7, 0, none⟩ = some (.int .i64 0) := blk_cell hG 0
  have z1 : w0.cell? ⟨n + 7, 1, none⟩ = some (.slice (some ⟨n + 2, 0, none⟩) 1 1) := blk_cell hG 1
  have z2 : w0.cell? ⟨n + 7, 2, none⟩ = some (.slice (some ⟨n + 6, 0, none⟩) 2 2) := blk_cell hG 2
  clear hn hb0 hN hR hG
  go_wp2_with (first
    | (go_at_call 8; (with_reducible refine (C1.out _ (below_refl _)).mono ?_); intro e w1 h1; obtain ⟨hb1, A1, c1, rfl, l1, l2, hC1⟩ := aw_first h1; have HC1 := Lib.hid hC1; have HB1 := Lib.hid hb1; have z0 := below_cell hb1 z0; have z1 := below_cell hb1 z1; have z2 := below_cell hb1 z2; clear h1 hb1 hC1)
    | (go_at_call 8; (with_reducible refine (C2.out _ HB1.out).mono ?_); intro e w2 h2; obtain ⟨hb2, rfl⟩ := aw_second h2; have HB2 := Lib.hid (below_then HB1.out hb2); have HC1 := Lib.hid (HC1.out.mono hb2); clear h2 hb2)
    | (go_at_call 8; (with_reducible refine (C3.out _).mono ?_); intro e w3 h3; obtain ⟨hb3, rfl⟩ := aw_third h3; have HB3 := Lib.hid (below_then HB2.out hb3); have HC1 := Lib.hid (HC1.out.mono hb3); clear h3 hb3)
    | (go_at_call 12; refine (same_brs (bs := awT) (HC1.out.mono (below_alloc' (below_refl _) _)) (C_blk [brnCs ⟨0, 0, 0, 2, 1⟩, brnCs ⟨0, 0, 1, 2, 1⟩, brnCs ⟨0, 1, 2, 2, 0⟩] (by exact heap_alloc_new w3 _) rfl ⟨⟨rfl, rfl⟩, ⟨rfl, rfl⟩, ⟨rfl, rfl⟩, trivial⟩) (by decide)).mono ?_; rintro e w4 ⟨rfl, hb4⟩; have HB4 := Lib.hid (below_then (below_then HB3.out (below_alloc' (below_refl _) _)) hb4); clear hb4)
    | (go_at_call 9; refine (num_any _ _).mono ?_; rintro e w5 ⟨rfl, rfl⟩)
    | fail)
  go_ret
  exact ⟨rfl, below_then HB0.out HB4.out⟩
end Go.Proofs.Ytbidpeggdhkahaa
