/-
  Is: templelaw22.TreeBytes answers true.
-/
import Derived.Test.YtbidpeggdhkahaaIr
set_option linter.unusedSimpArgs false
set_option linter.unusedVariables false
namespace Go.Proofs.Ytbidpeggdhkahaa
open Go.RowKit

theorem first_walks {w w' : World} {G : Gram} {W : ByteArray} {e : Ending} (h : FirstPost w G W e w') : Below w.heap.size w w' ∧ ∃ n x A c, e = .returned (.tuple #[.slice A n c, .int .i64 x]) ∧
    ((n = 0 ∧ (x != 0) = true) ∨ (x = 0 ∧ 1 ≤ n ∧ n ≤ c ∧ c ≤ 9223372036854775807 ∧ MayG G ∧ W.size ≤ 32 ∧ ∃ R, RkOK R G W ∧ 0 < R (rootK G W) ∧ n = (treeOf R G W (rootK G W)).length ∧ brnRd.C w' A (treeOf R G W (rootK G W)))) := by
  obtain ⟨hb, ⟨-, h⟩ | ⟨h1, h2, N, P, V, h⟩⟩ := h
  · exact ⟨hb, 0, 2200, none, 0, h, .inl ⟨rfl, by decide⟩⟩
  · have hm : mayB G = true := by
      cases h' : mayB G with
      | true => rfl
      | false => exact absurd (.inl h') h1
    have M := mayG hm
    refine ⟨hb, ?_⟩
    unfold FirstIs at h
    rcases h with ⟨h, he⟩ | ⟨h, -, he⟩ | ⟨h, bs, A, c, hf, he, l1, l2, hC⟩
    · exact ⟨0, 2201, none, 0, he, .inl ⟨rfl, by decide⟩⟩
    · exact ⟨0, 2202, none, 0, he, .inl ⟨rfl, by decide⟩⟩
    · have e1 := firstGo_out (rkOK M V) 4098 [] [rootK G W] bs (fun q hq => by rw [List.mem_singleton.1 hq]; exact ⟨rfl, h⟩) hf
      have e2 : bs = treeOf (rankV G W N P) G W (rootK G W) := by rw [e1]; simp
      refine ⟨bs.length, 0, A, c, he, .inr ⟨rfl, ?_, l1, l2, M, h2, _, rkOK M V, h, by rw [e2], by rw [← e2]; exact hC⟩⟩
      rw [e2, treeOf_eq (rkOK M V) h rfl]
      simp
def TbR (w1 : World) (G : Gram) (cnt : Value) (wr : World) : Prop := ∃ i : Nat, cnt = .int .i64 i ∧ i ≤ G.rules.length ∧ (∀ (r : Nat) (x : Rul), r < i → G.rules[r]? = some x → ∃ y : Conj, x.conj = [y] ∧ y.neg = false) ∧ Below w1.heap.size w1 wr

set_option maxRecDepth 100000 in
set_option maxHeartbeats 4000000 in
theorem bytes_any {w : World} (G : Gram) (W : ByteArray) {A A' : Option Addr} {c c' : Nat} (hWs : W.size < 9223372036854775807) (n1 : G.names.length ≤ c) (n2 : c ≤ 9223372036854775807) (n3 : Rd.str.C w A G.names) (n4 : G.rules.length ≤ c') (n5 : c' ≤ 9223372036854775807) (n6 : rulRd.C w A' G.rules) :
    Calls Try.prog 3 #[.agg #[.int .i64 G.start, .slice A G.names.length c, .slice A' G.rules.length c'], .string W] w
      fun e w' => e = .returned (.bool true) ∧ Below w.heap.size w w' := by
  have hb0 : Below w.heap.size w (w.alloc (grO G A A' c c')) := below_alloc' (below_refl w) _
  have B0 := heap_alloc_new w (grO G A A' c c')
  have N3 := n3.mono hb0
  have N6 := n6.mono hb0
  obtain ⟨bg, hbg⟩ : ∃ bg, bg = w.heap.size := ⟨_, rfl⟩
  clear n3 n6
  go_enter Try.func3, Try.ntmps3
  go_upto_region 1 with fail
  change Code.wp _ _ _ _ (w.alloc (grO G A A' c c'))
  rw [← hbg] at B0 ⊢
  generalize w.alloc (grO G A A' c c') = w0 at hb0 B0 N3 N6 ⊢
  have CF := Lib.hid (show ∀ W1, Below w0.heap.size w0 W1 → Calls Try.prog 8 #[.agg #[.int .i64 G.start, .slice A G.names.length c, .slice A' G.rules.length c'], .string W] W1 (FirstPost W1 G W) from fun W1 h1 => first_any G W n1 n2 (N3.mono h1) n4 n5 (N6.mono h1))
  have z0 : w0.cell? ⟨bg, 0, none⟩ = some (.int .i64 G.start) := blk_cell B0 0
  have z1 : w0.cell? ⟨bg, 1, none⟩ = some (.slice A G.names.length c) := blk_cell B0 1
  have z2 : w0.cell? ⟨bg, 2, none⟩ = some (.slice A' G.rules.length c') := blk_cell B0 2
  have HB0 := Lib.hid hb0
  have HR0 := Lib.hid N6
  clear hbg hb0 B0 N3 N6
  go_wp2_with (first
    | (go_at_call 7; (with_reducible refine (awake_any _).mono ?_); rintro e w1 ⟨rfl, hb1⟩; have HB1 := Lib.hid hb1; have z0 := below_cell hb1 z0; have z1 := below_cell hb1 z1; have z2 := below_cell hb1 z2; clear hb1)
    | fail)
  go_loopw [5] (fun cnt wr => TbR w1 G cnt wr) (fun cnt _ => G.rules.length - (intOf cnt).toNat)
  case atStart => exact ⟨0, rfl, Nat.zero_le _, fun _ _ h => absurd h (Nat.not_lt_zero _), below_refl _⟩
  case round =>
    obtain ⟨i, rfl, hi, hall, hb⟩ := hrel
    have HALL := Lib.hid hall
    have HB := Lib.hid hb
    have z0 := below_cell hb z0
    have z1 := below_cell hb z1
    have z2 := below_cell hb z2
    have HRR := Lib.hid (HR0.out.mono (below_then HB1.out hb))
    clear hall hb
    by_cases hlt : i < G.rules.length
    · obtain ⟨x, hx⟩ : ∃ x, G.rules[i]? = some x := ⟨_, List.getElem?_eq_getElem hlt⟩
      have HX := Lib.hid hx
      obtain ⟨ad, A1, c1, eA, -, -, h1, l1, l2, hC⟩ := rul_at HRR.out hx
      subst eA
      have hii : (i : Int) < G.rules.length := by omega
      by_cases hl1 : x.conj.length = 1
      · obtain ⟨y, hy⟩ := List.length_eq_one_iff.1 hl1
        obtain ⟨hd', cj⟩ := x
        have hy : cj = [y] := hy
        subst hy
        have h1 : wr.cell? ⟨(ad.add (i * 2)).block, (ad.add (i * 2)).off + 1, none⟩ = some (.slice A1 1 c1) := h1
        obtain ⟨ad3, A2, c2, eA, -, g0, -, q1, q2, -⟩ := conj_at hC (i := 0) (x := y) rfl
        subst eA
        rw [Nat.zero_mul, addr_add0] at g0
        have l1 : 1 ≤ c1 := l1
        clear hC hl1 hx
        cases hn : y.neg with
        | true =>
          rw [hn] at g0
          clear hn
          go_wp2_with fail
          go_ret
          exact ⟨rfl, below_then HB0.out (below_then HB1.out HB.out)⟩
        | false =>
          have HN := Lib.hid hn
          rw [hn] at g0
          clear hn
          go_wp2_with fail
          go_roundw
          case rel =>
            refine ⟨i + 1, by go_num, by omega, fun r x hr hx => ?_, HB.out⟩
            by_cases h : r < i
            · exact HALL.out r x h hx
            · obtain rfl : r = i := by omega
              rw [HX.out] at hx
              injection hx with hx
              subst hx
              exact ⟨y, rfl, HN.out⟩
          case measure => simp [intOf]; omega
      · have b1 : ¬ ((x.conj.length : Int) = 1) := by omega
        have b2 : ((x.conj.length : Int) != 1) = true := by simpa using b1
        clear hC hx HX
        go_wp2_with fail
        go_ret
        exact ⟨rfl, below_then HB0.out (below_then HB1.out HB.out)⟩
    · have b1 : ¬ ((i : Int) < G.rules.length) := by omega
      have HO := Lib.hid (show OneB G from fun r x hx => HALL.out r x (by have := (List.getElem?_eq_some_iff.1 hx).1; omega) hx)
      clear HALL hlt
      go_upto_region 9 with (first
        | (go_at_call 8; (with_reducible refine (CF.out _ (below_then HB1.out HB.out)).mono ?_); intro e w2 h2; obtain ⟨hb2, n, xc, Ab, cb, rfl, hD⟩ := first_walks h2; have HD := Lib.hid hD; have HB2 := Lib.hid (below_then (below_then HB1.out HB.out) hb2); have z0 := below_cell hb2 z0; have z1 := below_cell hb2 z1; have z2 := below_cell hb2 z2; clear h2 hb2 hD)
        | fail)
      obtain ⟨rfl, hne⟩ | ⟨rfl, hn0, hn1, hn2, M, hW, R, H, hp, hn, hC⟩ := HD.out
      · clear HD
        go_wp2_with (first
          | (go_at_call 9; refine (num_any _ _).mono ?_; rintro e w5 ⟨rfl, rfl⟩)
          | fail)
        go_ret
        exact ⟨rfl, below_then HB0.out HB2.out⟩
      · have HC := Lib.hid hC
        clear hC HD
        have CW := Lib.hid (show Calls Try.prog 10 #[.agg #[.int .i64 G.start, .slice A G.names.length c, .slice A' G.rules.length c'], .string W, .slice Ab n cb, .int .i64 0] w2
            fun e w' => e = .returned (.tuple #[.int .i64 W.size, .int .i64 n]) ∧ Below w2.heap.size w2 w' from by
          have := walked_any (A := A) (c := c) H HO.out (fun r x c y hx hy => M.seq r x c y hx hy) hW n4 n5 (by rw [← hn]; exact hn1) hn2 (R (rootK G W)).toNat (rootK G W) 0 w2 (by omega) hp rfl ⟨[], by simp⟩ (HR0.out.mono HB2.out) HC.out
          rw [← hn, Nat.zero_add] at this
          exact this)
        obtain ⟨b0, hb0⟩ : ∃ b, (treeOf R G W (rootK G W))[0]? = some b := ⟨_, List.getElem?_eq_getElem (by omega)⟩
        have hbj : b0.j = W.size := by
          rw [treeOf_eq H hp rfl] at hb0
          have hb0 : some (brnOf R G W (rootK G W)) = some b0 := hb0
          injection hb0 with hb0
          rw [← hb0]; rfl
        obtain ⟨ad5, eA, K5⟩ := br_at HC.out hb0
        subst eA
        have V3 : w2.cell? ⟨ad5.block, ad5.off + 3, none⟩ = some (.int .i64 W.size) := by
          have := K5.c3
          rw [Nat.zero_mul, addr_add0, hbj] at this
          exact this
        have hnn : ¬ ((n : Int) = 0) := by omega
        have b2 : ((n : Int) == 0) = false := by simpa using hnn
        have b3 : (0 : Int) < n := by omega
        clear hbj hb0 K5 M H hp hn

        go_wp2_with (first
          | (go_at_call 9; refine (num_any _ _).mono ?_; rintro e w5 ⟨rfl, rfl⟩)
          | (go_at_call 10; (with_reducible refine CW.out.mono ?_); rintro e w6 ⟨rfl, hb6⟩; have HB6 := Lib.hid (below_then HB2.out hb6); have V3 := below_cell hb6 V3; clear hb6)
          | fail)
        go_ret
        exact ⟨rfl, below_then HB0.out HB6.out⟩
end Go.Proofs.Ytbidpeggdhkahaa
