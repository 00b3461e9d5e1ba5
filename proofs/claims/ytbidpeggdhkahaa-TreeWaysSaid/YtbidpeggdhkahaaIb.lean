/-
  Ib: ways.New; (*tree.grower).along.
-/
import Derived.Test.YtbidpeggdhkahaaIa
import Derived.Test.YtbidpeggdhkahaaP7
set_option linter.unusedSimpArgs false
set_option linter.unusedVariables false
namespace Go.Proofs.Ytbidpeggdhkahaa
open Go.RowKit

/-- A grammar in a block of its own. -/
def grO (G : Gram) (A A' : Option Addr) (c c' : Nat) : Obj := .cells #[.int .i64 G.start, .slice A G.names.length c, .slice A' G.rules.length c'] 25 (0, 0)
/-- What ways.New leaves. -/
def WNew (w : World) (gb : Nat) (G : Gram) (W : ByteArray) (full : Bool) (e : Ending) (w' : World) : Prop :=
  Below w.heap.size w w' ∧ (((RefG G ∨ 32 < W.size) ∧ ∃ p : Nat, e = .returned (.tuple #[.pointer (some ⟨p, 0, none⟩), .bool false])) ∨
    (¬ RefG G ∧ W.size ≤ 32 ∧ ∃ m : MK, m.g = gb ∧ m.full = full ∧ m.t.G = G ∧ m.t.W = W ∧ MKAt w' m ∧ m.Fits ∧ e = .returned (.tuple #[.pointer (some ⟨m.p, 0, none⟩), .bool true])))
set_option maxRecDepth 100000 in
set_option maxHeartbeats 2000000 in
theorem wNew {w : World} {gb : Nat} (G : Gram) (W : ByteArray) (full : Bool) {A A' : Option Addr} {c c' : Nat} (hg : w.heap[gb]? = some (grO G A A' c c')) (n1 : G.names.length ≤ c) (n2 : c ≤ 9223372036854775807) (n3 : Rd.str.C w A G.names) (n4 : G.rules.length ≤ c') (n5 : c' ≤ 9223372036854775807) (n6 : rulRd.C w A' G.rules) :
    Calls Try.prog 13 #[.pointer (some ⟨gb, 0, none⟩), .string W, .bool full] w (WNew w gb G W full) := by
  have g0 : w.cell? ⟨gb, 0, none⟩ = some (.int .i64 G.start) := blk_cell hg 0
  have g1 : w.cell? ⟨gb, 1, none⟩ = some (.slice A G.names.length c) := blk_cell hg 1
  have g2 : w.cell? ⟨gb, 2, none⟩ = some (.slice A' G.rules.length c') := blk_cell hg 2
  have CN := Lib.hid (new_whole (w := w) G W n1 n2 n3 n4 n5 n6)
  have HG := Lib.hid hg
  have N6 := Lib.hid n6
  clear hg n3 n6
  go_enter Try.func13, Try.ntmps13
  go_wp2_with fail
  refine CN.out.mono ?_
  rintro e w1 ⟨hb1, ⟨hr, rfl⟩ | ⟨hm, hn, hW, t, fin, hL, tG, tW, rfl, hS, hRw, hSol⟩⟩
  · have HB1 := Lib.hid hb1
    have HR := Lib.hid hr
    clear hb1 hr CN
    go_wp2_with fail
    refine bodyPost_ret (v := .tuple #[.pointer (some ⟨w1.heap.size, 0, none⟩), .bool false]) (by simp [results, Try.results13, go_sem]) rfl ?_
    exact ⟨below_then HB1.out (below_alloc' (below_refl _) _), .inl ⟨HR.out, _, rfl⟩⟩
  · have HB1 := Lib.hid hb1
    have HM := Lib.hid hm
    have HN := Lib.hid hn
    have HWW := Lib.hid hW
    have HL := Lib.hid hL
    have TG := Lib.hid tG
    have TW := Lib.hid tW
    have HS := Lib.hid hS
    have HRw := Lib.hid hRw
    have HSol := Lib.hid hSol
    clear hb1 hm hn hW hL tG tW hS hRw hSol CN
    go_wp2_with fail
    refine bodyPost_ret (v := .tuple #[.pointer (some ⟨w1.heap.size, 0, none⟩), .bool true]) (by simp [results, Try.results13, go_sem]) rfl ?_
    have B9 := heap_alloc_new w1 (.cells #[.pointer (some ⟨gb, 0, none⟩), .string W, .pointer (some ⟨t.p, 0, none⟩), .bool full] 73)
    have hb9 : Below w1.heap.size w1 (w1.alloc (.cells #[.pointer (some ⟨gb, 0, none⟩), .string W, .pointer (some ⟨t.p, 0, none⟩), .bool full] 73)) := below_alloc' (below_refl _) _
    have hbb := below_then HB1.out hb9
    refine ⟨hbb, .inr ⟨fun h => h.elim (fun h => by rw [HM.out] at h; cases h) HN.out, HWW.out, ⟨w1.heap.size, gb, t, fin, full, A', c'⟩, rfl, rfl, TG.out, TW.out, ⟨blk_cell B9 0, ?_, blk_cell B9 2, blk_cell B9 3, ?_, ?_, ?_, HS.out.below hb9, HRw.out.below hb9⟩, ⟨HL.out, HSol.out, ?_, ?_, n5⟩, rfl⟩⟩
    · simp only [TW.out]; exact blk_cell B9 1
    · simp only [TG.out]; exact blk_cell (blk_below HG.out hbb) 0
    · simp only [TG.out]; exact blk_cell (blk_below HG.out hbb) 2
    · simp only [TG.out]; exact N6.out.mono hbb
    · simp only [TG.out]; exact mayG HM.out
    · simp only [TG.out]; exact n4
end Go.Proofs.Ytbidpeggdhkahaa
