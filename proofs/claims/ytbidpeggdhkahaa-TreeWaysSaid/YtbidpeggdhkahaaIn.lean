/-
  In: templelaw22.TreeRows answers true.
-/
import Derived.Test.YtbidpeggdhkahaaIk
import Derived.Test.YtbidpeggdhkahaaIm
set_option linter.unusedSimpArgs false
set_option linter.unusedVariables false
namespace Go.Proofs.Ytbidpeggdhkahaa
open Go.RowKit

theorem band_small (x : Int) {m : Nat} (hm : m < 9223372036854775808) : 0 ≤ bits .and .i64 x m ∧ bits .and .i64 x m ≤ m := by
  show 0 ≤ IntKind.i64.wrap ((BitVec.ofInt 64 x &&& BitVec.ofInt 64 (m : Int)).toNat : Int) ∧ IntKind.i64.wrap ((BitVec.ofInt 64 x &&& BitVec.ofInt 64 (m : Int)).toNat : Int) ≤ m
  rw [BitVec.toNat_and]
  have h2 : (BitVec.ofInt 64 (m : Int)).toNat = m := by simp [BitVec.toNat_ofInt]; omega
  have h3 : (BitVec.ofInt 64 x).toNat &&& m ≤ m := Nat.and_le_right
  rw [h2, IntWalk.i64_in _ (by omega)]
  omega
/-- The grammar's row: the two symbols' blocks lie ahead of it. -/
def rwObjs (n : Nat) : List Obj := [
  .cells #[.int .i64 (-1), .int .i64 97, .int .i64 97] 44 (0, 0),
  .cells #[.int .i64 (-1), .int .i64 98, .int .i64 98] 44 (0, 0),
  .cells #[.string ⟨#[83]⟩] 9 (0, 0),
  .cells #[.bool false, .slice none 0 0] 32 (0, 0),
  symO [sA, sS, sB],
  .cells #[.bool false, .slice (some ⟨n + 4, 0, none⟩) 3 3] 32 (0, 0),
  .cells #[.int .i64 0, .slice (some ⟨n + 3, 0, none⟩) 1 1, .int .i64 0, .slice (some ⟨n + 5, 0, none⟩) 1 1] 29 (0, 0),
  .cells #[.int .i64 0, .slice (some ⟨n + 2, 0, none⟩) 1 1, .slice (some ⟨n + 6, 0, none⟩) 2 2] 25 (0, 0)]
theorem rw_lie (w : World) : Rd.str.C (allocs w (rwObjs w.heap.size)) (some ⟨w.heap.size + 2, 0, none⟩) gN.names ∧ rulRd.C (allocs w (rwObjs w.heap.size)) (some ⟨w.heap.size + 6, 0, none⟩) gN.rules ∧
    (allocs w (rwObjs w.heap.size)).heap[w.heap.size + 7]? = some (.cells #[.int .i64 0, .slice (some ⟨w.heap.size + 2, 0, none⟩) 1 1, .slice (some ⟨w.heap.size + 6, 0, none⟩) 2 2] 25 (0, 0)) := by
  have H : ∀ k o, (rwObjs w.heap.size)[k]? = some o → (allocs w (rwObjs w.heap.size)).heap[w.heap.size + k]? = some o := fun k o h => allocs_heap _ _ _ _ h
  generalize allocs w (rwObjs w.heap.size) = W at H
  have c4 := symO_C (H 4 _ rfl)
  have d3 : conjRd.C W (some ⟨w.heap.size + 3, 0, none⟩) [⟨false, []⟩] := C_blk [[.bool false, .slice none 0 0]] (H 3 _ rfl) rfl ⟨⟨conjRd_mk (x := ⟨false, []⟩) (by decide) (by decide) (Rd.C.nil _ _ _), rfl⟩, trivial⟩
  have d5 : conjRd.C W (some ⟨w.heap.size + 5, 0, none⟩) [⟨false, [sA, sS, sB]⟩] := C_blk [[.bool false, .slice (some ⟨w.heap.size + 4, 0, none⟩) 3 3]] (H 5 _ rfl) rfl ⟨⟨conjRd_mk (x := ⟨false, [sA, sS, sB]⟩) (by decide) (by decide) c4, rfl⟩, trivial⟩
  refine ⟨?_, ?_, H 7 _ rfl⟩
  · exact C_blk [[.string ⟨#[83]⟩]] (H 2 _ rfl) rfl ⟨⟨rfl, rfl⟩, trivial⟩
  · exact C_blk [[.int .i64 0, .slice (some ⟨w.heap.size + 3, 0, none⟩) 1 1], [.int .i64 0, .slice (some ⟨w.heap.size + 5, 0, none⟩) 1 1]] (H 6 _ rfl) rfl
      ⟨⟨rulRd_mk (x := ⟨0, [⟨false, []⟩]⟩) (by decide) (by decide) d3, rfl⟩, ⟨rulRd_mk (x := ⟨0, [⟨false, [sA, sS, sB]⟩]⟩) (by decide) (by decide) d5, rfl⟩, trivial⟩
theorem rw_first {w w' : World} {k : Nat} (hk : k < 16) {e : Ending} (h : FirstPost w gN (nestW k) e w') : Below w.heap.size w w' ∧ ∃ A c, e = .returned (.tuple #[.slice A (k + 1) c, .int .i64 0]) ∧ k + 1 ≤ c ∧ c ≤ 9223372036854775807 ∧ brnRd.C w' A (nestT k k) := by
  obtain ⟨hs, -⟩ := nestW_all ⟨k, hk⟩
  have hs : (nestW k).size = 2 * k := hs
  obtain ⟨hb, ⟨h1 | h1, -⟩ | ⟨-, -, N, P, V, h⟩⟩ := h
  · exact absurd h1 gN_ref
  · omega
  · have M := mayG gN_may
    obtain ⟨t1, t2⟩ := gN_first hk (rkOK M V) (rkC M V)
    refine ⟨hb, ?_⟩
    rcases h with ⟨h, -⟩ | ⟨-, h, -⟩ | ⟨-, bs, A, c, h, he, l1, l2, hC⟩
    · have h : rankV gN (nestW k) N P (nameKey gN.start 0 (nestW k).size) = 0 := h
      omega
    · have h : firstGo (rankV gN (nestW k) N P) gN (nestW k) 4098 [] [nameKey gN.start 0 (nestW k).size] = none := h
      rw [t2] at h; cases h
    · have h : firstGo (rankV gN (nestW k) N P) gN (nestW k) 4098 [] [nameKey gN.start 0 (nestW k).size] = some bs := h
      rw [t2] at h
      injection h with h
      subst h
      rw [nestT_len] at he l1
      exact ⟨A, c, he, l1, l2, hC⟩
def RwR (w0 : World) (k : Nat) (s7 s8 : Value) (wr : World) : Prop := ∃ i : Nat, s7 = .string (nestW i) ∧ s8 = .int .i64 i ∧ i ≤ k ∧ wr = w0

set_option maxRecDepth 100000 in
set_option maxHeartbeats 4000000 in
theorem rows_any (w : World) (x : Int) : Calls Try.prog 4 #[.int .i64 x] w fun e w' => e = .returned (.bool true) ∧ Below w.heap.size w w' := by
  obtain ⟨k, hk, hk16⟩ : ∃ k : Nat, bits BinOp.and .i64 x 15 = (k : Int) ∧ k < 16 := by
    obtain ⟨h0, h1⟩ := band_small x (m := 15) (by decide)
    simp only [Int.cast_ofNat_Int] at h0 h1
    exact ⟨(bits BinOp.and .i64 x 15).toNat, by omega, by omega⟩
  have HK := Lib.hid hk
  clear hk
  go_enter Try.func4, Try.ntmps4
  go_upto_region 7 with (first
      | (go_at_call 7; (with_reducible refine (awake_any _).mono ?_); rintro e w1 ⟨rfl, hb1⟩; have HB1 := Lib.hid hb1; clear hb1)
      | fail)
  change Code.wp _ _ _ _ (allocs w1 (rwObjs w1.heap.size))
  rw [HK.out]
  obtain ⟨hN, hR, hG⟩ := rw_lie w1
  have hb0 : Below w1.heap.size w1 (allocs w1 (rwObjs w1.heap.size)) := allocs_below _ (below_refl w1)
  obtain ⟨n, hn⟩ : ∃ n, n = w1.heap.size := ⟨_, rfl⟩
  have HB0 := Lib.hid (below_then HB1.out hb0)
  rw [show w1.heap.size + 1 + 1 + 1 + 1 + 1 + 1 + 1 = n + 7 by omega]
  rw [← hn] at hN hR hG HB0 ⊢
  generalize allocs w1 (rwObjs n) = w0 at hN hR hG HB0 ⊢
  have C1 := Lib.hid (show Calls Try.prog 8 #[.agg #[.int .i64 0, .slice (some ⟨n + 2, 0, none⟩) 1 1, .slice (some ⟨n + 6, 0, none⟩) 2 2], .string (nestW k)] w0 (FirstPost w0 gN (nestW k)) from first_any gN (nestW k) (Nat.le_refl 1) (by decide) hN (Nat.le_refl 2) (by decide) hR)
  have z0 : w0.cell? ⟨n + 7, 0, none⟩ = some (.int .i64 0) := blk_cell hG 0
  have z1 : w0.cell? ⟨n + 7, 1, none⟩ = some (.slice (some ⟨n + 2, 0, none⟩) 1 1) := blk_cell hG 1
  have z2 : w0.cell? ⟨n + 7, 2, none⟩ = some (.slice (some ⟨n + 6, 0, none⟩) 2 2) := blk_cell hG 2
  clear hn hN hR hG hb0 HB1 HK
  go_wp2_with fail
  go_loopw [7, 8] (fun s7 s8 wr => RwR w0 k s7 s8 wr) (fun _ s8 _ => k - (intOf s8).toNat)
  case atStart => exact ⟨0, rfl, rfl, Nat.zero_le _, rfl⟩
  case round =>
    obtain ⟨i, rfl, rfl, hi, rfl⟩ := hrel
    by_cases hlt : i < k
    · have b1 : (i : Int) < k := by omega
      have hz : (nestW i).size = 2 * i := (nestW_all ⟨i, by omega⟩).1
      have g1 : ¬ 9223372036854775807 < 1 + (nestW i).size := by omega
      have g2 : ¬ 9223372036854775807 < 1 + (nestW i).size + 1 := by omega
      clear hz
      go_wp2_with fail
      go_roundw
      case rel => exact ⟨i + 1, rfl, by go_num, by omega, rfl⟩
      case measure => simp [intOf]; omega
    · have b1 : ¬ ((i : Int) < k) := by omega
      obtain rfl : i = k := by omega
      clear hlt hi
      go_wp2_with (first
        | (go_at_call 8; (with_reducible refine C1.out.mono ?_); intro e w2 h2; obtain ⟨hb2, A1, c1, rfl, l1, l2, hC1⟩ := rw_first hk16 h2; have HC1 := Lib.hid hC1; have HB2 := Lib.hid (below_then HB0.out hb2); clear h2 hb2 hC1)
        | (go_at_call 9; refine (num_any _ _).mono ?_; rintro e w5 ⟨rfl, rfl⟩)
        | fail)
      clear z0 z1 z2 C1 HB0
      go_loopw [11] (fun cnt wr => ToNb w5 i cnt wr) (fun cnt _ => i - (intOf cnt).toNat)
      case atStart => exact ⟨0, rfl, Nat.zero_le _, below_refl _⟩
      case round =>
        obtain ⟨m, rfl, hm, hb⟩ := hrel
        have HB := Lib.hid hb
        clear hb
        by_cases hlt : m < i
        · have hs := nestT_get i i m hlt
          rw [show (i : Int) - (i : Nat) + (m : Nat) = m by omega, show (i : Int) + (i : Nat) - (m : Nat) = 2 * (i : Int) - m by omega] at hs
          obtain ⟨ad, eA, K1⟩ := br_at (HC1.out.mono HB.out) hs
          subst eA
          have hki : (m : Int) < i := by omega
          have P0 : wr.cell? (ad.add (m * 5)) = some (.int .i64 0) := K1.c0
          have P1 := K1.c1
          have P2 := K1.c2
          have P3 := K1.c3
          have P4 := K1.c4
          simp only at P1 P2 P3 P4
          have e1 : IntKind.i64.wrap (2 * (i : Int)) = 2 * (i : Int) := IntWalk.i64_in _ (by omega)
          have e2 : IntKind.i64.wrap (2 * (i : Int) - m) = 2 * (i : Int) - m := IntWalk.i64_in _ (by omega)
          have KE : ∀ w, (binOp .neq 41 (.agg #[.int .i64 0, .int .i64 1, .int .i64 m, .int .i64 (2 * (i : Int) - m), .int .i64 1]) (.agg #[.int .i64 0, .int .i64 1, .int .i64 m, .int .i64 (2 * (i : Int) - m), .int .i64 1])).run Try.prog w = .ok (.bool false) w := run_br_neq ⟨0, 1, m, 2 * (i : Int) - m, 1⟩
          have KG := br_guard
          clear hs K1
          go_wp2_with fail
          go_roundw
          case rel => exact ⟨m + 1, by go_num, by omega, HB.out⟩
          case measure => simp [intOf]; omega
        · have b1 : ¬ ((m : Int) < i) := by omega
          obtain rfl : m = i := by omega
          have hs := nestT_last m m
          obtain ⟨ad, eA, K1⟩ := br_at (HC1.out.mono HB.out) hs
          subst eA
          have P0 : wr.cell? (ad.add (m * 5)) = some (.int .i64 0) := K1.c0
          have P1 := K1.c1
          have P2 := K1.c2
          have P3 := K1.c3
          have P4 := K1.c4
          simp only at P1 P2 P3 P4
          have KE : ∀ w, (binOp .eql 41 (.agg #[.int .i64 0, .int .i64 0, .int .i64 m, .int .i64 m, .int .i64 0]) (.agg #[.int .i64 0, .int .i64 0, .int .i64 m, .int .i64 m, .int .i64 0])).run Try.prog w = .ok (.bool true) w := run_br_eql ⟨0, 0, m, m, 0⟩
          have KG := br_guard
          clear hs K1 hlt hm
          go_wp2_with fail
          go_ret
          exact ⟨rfl, below_then HB2.out HB.out⟩
end Go.Proofs.Ytbidpeggdhkahaa
