/-
  P7: mean.New whole.
  Ib: ways.New; (*tree.grower).along.
-/
import Derived.Test.YtbidpeggdhkahaaGreatP1
import Derived.Test.YtbidpeggdhkahaaGreatMa
import Derived.Test.YtbidpeggdhkahaaGreatF5
import Derived.Test.YtbidpeggdhkahaaGreatIa
set_option linter.unusedSimpArgs false
set_option linter.unusedVariables false
namespace Go.Proofs.YtbidpeggdhkahaaGreat
open Go.RowKit

/-- What New leaves. -/
def NewIs (w : World) (G : Gram) (W : ByteArray) (e : Ending) (w' : World) : Prop :=
  Below w.heap.size w w' ∧ (((RefG G ∨ 32 < W.size) ∧ e = .returned (.tuple #[.pointer none, .int .i64 1100])) ∨
    (mayB G = true ∧ ¬ NegCyc (edgesOf G) ∧ W.size ≤ 32 ∧ ∃ (t : TS) (fin : Rk × Rk), Law t ∧ t.G = G ∧ t.W = W ∧ e = .returned (.tuple #[.pointer (some ⟨t.p, 0, none⟩), .int .i64 0]) ∧ Stat w' t ∧ Rows w' t fin.1 fin.2 ∧ Sol t fin))
theorem new_whole {w : World} (G : Gram) (W : ByteArray) {A A' : Option Addr} {c c' : Nat} (n1 : G.names.length ≤ c) (n2 : c ≤ 9223372036854775807) (n3 : Rd.str.C w A G.names) (n4 : G.rules.length ≤ c') (n5 : c' ≤ 9223372036854775807) (n6 : rulRd.C w A' G.rules) :
    Calls Tryz.prog 32 #[.agg #[.int .i64 G.start, .slice A G.names.length c, .slice A' G.rules.length c'], .string W] w (NewIs w G W) := by
  refine (new_any G W n1 n2 n3 n4 n5 n6 (RefG G) (GoodLev G) (fun lev hg => gfits_of (mayG hg.may) hg.len) (fun w' hb => strata_whole G n1 n2 (n3.mono hb) n4 n5 (n6.mono hb)) (fun t hg _ tG _ tO F => all_exist ⟨F, by rw [tG]; exact hg, by rw [tG]; exact tO⟩)).mono ?_
  rintro e w' ⟨hb, h | ⟨t, fin, hg, hW, tG, tW, tO, he, F, St, -, Rw, hA⟩⟩
  · exact ⟨hb, .inl h⟩
  · have H : Law t := ⟨F, by rw [tG]; exact hg, by rw [tG]; exact tO⟩
    exact ⟨hb, .inr ⟨hg.may, hg.cyc, hW, t, fin, H, tG, tW, he, St.stat, Rw, sol_of H hA⟩⟩
theorem Rows.far {w w' : World} {t : TS} {NM PL : Rk} {lo : Nat} (h : Rows w t NM PL) (hu : Upd (fun b => b < lo) w w') (hl : ∀ b, t.R b → lo ≤ b) : Rows w' t NM PL :=
  ⟨fun k i j a b c d e => let ⟨x, y⟩ := h.n k i j a b c d e; have hn : ¬ t.nr k < lo := Nat.not_lt.2 (hl _ (.inl ⟨k, a, rfl⟩)); ⟨hu.cell x hn, hu.froz x y hn⟩, fun k i j a b c d e => let ⟨x, y⟩ := h.p k i j a b c d e; have hn : ¬ t.pr k < lo := Nat.not_lt.2 (hl _ (.inr ⟨k, a, rfl⟩)); ⟨hu.cell x hn, hu.froz x y hn⟩⟩
/-- What New leaves, and that it lies apart from what was. -/
def NewIsL (w : World) (G : Gram) (W : ByteArray) (e : Ending) (w' : World) : Prop :=
  Below w.heap.size w w' ∧ (((RefG G ∨ 32 < W.size) ∧ e = .returned (.tuple #[.pointer none, .int .i64 1100])) ∨
    (mayB G = true ∧ ¬ NegCyc (edgesOf G) ∧ W.size ≤ 32 ∧ ∃ (t : TS) (fin : Rk × Rk), Law t ∧ t.G = G ∧ t.W = W ∧ e = .returned (.tuple #[.pointer (some ⟨t.p, 0, none⟩), .int .i64 0]) ∧ StatL w.heap.size w' t ∧ (∀ b, t.R b → w.heap.size ≤ b) ∧ Rows w' t fin.1 fin.2 ∧ Sol t fin))
theorem new_wholeL {w : World} (G : Gram) (W : ByteArray) {A A' : Option Addr} {c c' : Nat} (n1 : G.names.length ≤ c) (n2 : c ≤ 9223372036854775807) (n3 : Rd.str.C w A G.names) (n4 : G.rules.length ≤ c') (n5 : c' ≤ 9223372036854775807) (n6 : rulRd.C w A' G.rules) :
    Calls Tryz.prog 32 #[.agg #[.int .i64 G.start, .slice A G.names.length c, .slice A' G.rules.length c'], .string W] w (NewIsL w G W) := by
  refine (new_any G W n1 n2 n3 n4 n5 n6 (RefG G) (GoodLev G) (fun lev hg => gfits_of (mayG hg.may) hg.len) (fun w' hb => strata_whole G n1 n2 (n3.mono hb) n4 n5 (n6.mono hb)) (fun t hg _ tG _ tO F => all_exist ⟨F, by rw [tG]; exact hg, by rw [tG]; exact tO⟩)).mono ?_
  rintro e w' ⟨hb, h | ⟨t, fin, hg, hW, tG, tW, tO, he, F, St, hl, Rw, hA⟩⟩
  · exact ⟨hb, .inl h⟩
  · have H : Law t := ⟨F, by rw [tG]; exact hg, by rw [tG]; exact tO⟩
    exact ⟨hb, .inr ⟨hg.may, hg.cyc, hW, t, fin, H, tG, tW, he, St, hl, Rw, sol_of H hA⟩⟩
end Go.Proofs.YtbidpeggdhkahaaGreat

set_option linter.unusedSimpArgs false
set_option linter.unusedVariables false
namespace Go.Proofs.YtbidpeggdhkahaaGreat
open Go.RowKit

/-- A grammar in a block of its own. -/
def grO (G : Gram) (A A' : Option Addr) (c c' : Nat) : Obj := .cells #[.int .i64 G.start, .slice A G.names.length c, .slice A' G.rules.length c'] 25 (0, 0)
/-- What ways.New leaves. -/
def WNew (w : World) (gb : Nat) (G : Gram) (W : ByteArray) (full : Bool) (e : Ending) (w' : World) : Prop :=
  Below w.heap.size w w' ∧ (((RefG G ∨ 32 < W.size) ∧ ∃ p : Nat, e = .returned (.tuple #[.pointer (some ⟨p, 0, none⟩), .bool false])) ∨
    (¬ RefG G ∧ W.size ≤ 32 ∧ ∃ m : MK, m.g = gb ∧ m.full = full ∧ m.t.G = G ∧ m.t.W = W ∧ MKAt w' m ∧ m.Fits ∧ e = .returned (.tuple #[.pointer (some ⟨m.p, 0, none⟩), .bool true])))
set_option maxRecDepth 100000 in
set_option maxHeartbeats 2000000 in
theorem wNew {w : World} {gb : Nat} (G : Gram) (W : ByteArray) (full : Bool) {A A' : Option Addr} {c c' : Nat} (hg : w.heap[gb]? = some (grO G A A' c c')) (n1 : G.names.length ≤ c) (n2 : c ≤ 9223372036854775807) (n3 : Rd.str.C w A G.names) (n4 : G.rules.length ≤ c') (n5 : c' ≤ 9223372036854775807) (n6 : rulRd.C w A' G.rules) :
    Calls Tryz.prog 18 #[.pointer (some ⟨gb, 0, none⟩), .string W, .bool full] w (WNew w gb G W full) := by
  have g0 : w.cell? ⟨gb, 0, none⟩ = some (.int .i64 G.start) := blk_cell hg 0
  have g1 : w.cell? ⟨gb, 1, none⟩ = some (.slice A G.names.length c) := blk_cell hg 1
  have g2 : w.cell? ⟨gb, 2, none⟩ = some (.slice A' G.rules.length c') := blk_cell hg 2
  have CN := Lib.hid (new_whole (w := w) G W n1 n2 n3 n4 n5 n6)
  have HG := Lib.hid hg
  have N6 := Lib.hid n6
  clear hg n3 n6
  go_enter Tryz.func18, Tryz.ntmps18
  go_wp2_with fail
  refine CN.out.mono ?_
  rintro e w1 ⟨hb1, ⟨hr, rfl⟩ | ⟨hm, hn, hW, t, fin, hL, tG, tW, rfl, hS, hRw, hSol⟩⟩
  · have HB1 := Lib.hid hb1
    have HR := Lib.hid hr
    clear hb1 hr CN
    go_wp2_with fail
    refine bodyPost_ret (v := .tuple #[.pointer (some ⟨w1.heap.size, 0, none⟩), .bool false]) (by simp [results, Tryz.results18, go_sem]) rfl ?_
    exact ⟨below_then HB1.out (below_alloc' (below_refl _) _), .inl ⟨HR.out, _, rfl⟩⟩
  · have HB1 := Lib.hid hb1
    have HM := Lib.hid hm
    have HN := Lib.hid hn
    have HWW := Lib.hid hW
    have HL := Lib.hid hL
    have TG := Lib.hid tG
    have TW := Lib.hid tW
    have HS := Lib.hid hS
    have HRw := Lib.hid hRw
    have HSol := Lib.hid hSol
    clear hb1 hm hn hW hL tG tW hS hRw hSol CN
    go_wp2_with fail
    refine bodyPost_ret (v := .tuple #[.pointer (some ⟨w1.heap.size, 0, none⟩), .bool true]) (by simp [results, Tryz.results18, go_sem]) rfl ?_
    have B9 := heap_alloc_new w1 (.cells #[.pointer (some ⟨gb, 0, none⟩), .string W, .pointer (some ⟨t.p, 0, none⟩), .bool full] 97)
    have hb9 : Below w1.heap.size w1 (w1.alloc (.cells #[.pointer (some ⟨gb, 0, none⟩), .string W, .pointer (some ⟨t.p, 0, none⟩), .bool full] 97)) := below_alloc' (below_refl _) _
    have hbb := below_then HB1.out hb9
    refine ⟨hbb, .inr ⟨fun h => h.elim (fun h => by rw [HM.out] at h; cases h) HN.out, HWW.out, ⟨w1.heap.size, gb, t, fin, full, A', c'⟩, rfl, rfl, TG.out, TW.out, ⟨blk_cell B9 0, ?_, blk_cell B9 2, blk_cell B9 3, ?_, ?_, ?_, HS.out.below hb9, HRw.out.below hb9⟩, ⟨HL.out, HSol.out, ?_, ?_, n5⟩, rfl⟩⟩
    · simp only [TW.out]; exact blk_cell B9 1
    · simp only [TG.out]; exact blk_cell (blk_below HG.out hbb) 0
    · simp only [TG.out]; exact blk_cell (blk_below HG.out hbb) 2
    · simp only [TG.out]; exact N6.out.mono hbb
    · simp only [TG.out]; exact mayG HM.out
    · simp only [TG.out]; exact n4
end Go.Proofs.YtbidpeggdhkahaaGreat
