/-
  P7: mean.New whole.
-/
import Derived.Test.YtbidpeggdhkahaaP1
import Derived.Test.YtbidpeggdhkahaaMa
import Derived.Test.YtbidpeggdhkahaaF5
set_option linter.unusedSimpArgs false
set_option linter.unusedVariables false
namespace Go.Proofs.Ytbidpeggdhkahaa
open Go.RowKit

/-- What New leaves. -/
def NewIs (w : World) (G : Gram) (W : ByteArray) (e : Ending) (w' : World) : Prop :=
  Below w.heap.size w w' ∧ (((RefG G ∨ 32 < W.size) ∧ e = .returned (.tuple #[.pointer none, .int .i64 1100])) ∨
    (mayB G = true ∧ ¬ NegCyc (edgesOf G) ∧ W.size ≤ 32 ∧ ∃ (t : TS) (fin : Rk × Rk), Law t ∧ t.G = G ∧ t.W = W ∧ e = .returned (.tuple #[.pointer (some ⟨t.p, 0, none⟩), .int .i64 0]) ∧ Stat w' t ∧ Rows w' t fin.1 fin.2 ∧ Sol t fin))
theorem new_whole {w : World} (G : Gram) (W : ByteArray) {A A' : Option Addr} {c c' : Nat} (n1 : G.names.length ≤ c) (n2 : c ≤ 9223372036854775807) (n3 : Rd.str.C w A G.names) (n4 : G.rules.length ≤ c') (n5 : c' ≤ 9223372036854775807) (n6 : rulRd.C w A' G.rules) :
    Calls Try.prog 18 #[.agg #[.int .i64 G.start, .slice A G.names.length c, .slice A' G.rules.length c'], .string W] w (NewIs w G W) := by
  refine (new_any G W n1 n2 n3 n4 n5 n6 (RefG G) (GoodLev G) (fun lev hg => gfits_of (mayG hg.may) hg.len) (fun w' hb => strata_whole G n1 n2 (n3.mono hb) n4 n5 (n6.mono hb)) (fun t hg _ tG _ tO F => all_exist ⟨F, by rw [tG]; exact hg, by rw [tG]; exact tO⟩)).mono ?_
  rintro e w' ⟨hb, h | ⟨t, fin, hg, hW, tG, tW, tO, he, F, St, -, Rw, hA⟩⟩
  · exact ⟨hb, .inl h⟩
  · have H : Law t := ⟨F, by rw [tG]; exact hg, by rw [tG]; exact tO⟩
    exact ⟨hb, .inr ⟨hg.may, hg.cyc, hW, t, fin, H, tG, tW, he, St.stat, Rw, sol_of H hA⟩⟩
theorem Rows.far {w w' : World} {t : TS} {NM PL : Rk} {lo : Nat} (h : Rows w t NM PL) (hu : Upd (fun b => b < lo) w w') (hl : ∀ b, t.R b → lo ≤ b) : Rows w' t NM PL :=
  ⟨fun k i j a b c d e => let ⟨x, y⟩ := h.n k i j a b c d e; have hn : ¬ t.nr k < lo := Nat.not_lt.2 (hl _ (.inl ⟨k, a, rfl⟩)); ⟨hu.cell x hn, hu.froz x y hn⟩, fun k i j a b c d e => let ⟨x, y⟩ := h.p k i j a b c d e; have hn : ¬ t.pr k < lo := Nat.not_lt.2 (hl _ (.inr ⟨k, a, rfl⟩)); ⟨hu.cell x hn, hu.froz x y hn⟩⟩
/-- What New leaves, and that it lies apart from what was. -/
def NewIsL (w : World) (G : Gram) (W : ByteArray) (e : Ending) (w' : World) : Prop :=
  Below w.heap.size w w' ∧ (((RefG G ∨ 32 < W.size) ∧ e = .returned (.tuple #[.pointer none, .int .i64 1100])) ∨
    (mayB G = true ∧ ¬ NegCyc (edgesOf G) ∧ W.size ≤ 32 ∧ ∃ (t : TS) (fin : Rk × Rk), Law t ∧ t.G = G ∧ t.W = W ∧ e = .returned (.tuple #[.pointer (some ⟨t.p, 0, none⟩), .int .i64 0]) ∧ StatL w.heap.size w' t ∧ (∀ b, t.R b → w.heap.size ≤ b) ∧ Rows w' t fin.1 fin.2 ∧ Sol t fin))
theorem new_wholeL {w : World} (G : Gram) (W : ByteArray) {A A' : Option Addr} {c c' : Nat} (n1 : G.names.length ≤ c) (n2 : c ≤ 9223372036854775807) (n3 : Rd.str.C w A G.names) (n4 : G.rules.length ≤ c') (n5 : c' ≤ 9223372036854775807) (n6 : rulRd.C w A' G.rules) :
    Calls Try.prog 18 #[.agg #[.int .i64 G.start, .slice A G.names.length c, .slice A' G.rules.length c'], .string W] w (NewIsL w G W) := by
  refine (new_any G W n1 n2 n3 n4 n5 n6 (RefG G) (GoodLev G) (fun lev hg => gfits_of (mayG hg.may) hg.len) (fun w' hb => strata_whole G n1 n2 (n3.mono hb) n4 n5 (n6.mono hb)) (fun t hg _ tG _ tO F => all_exist ⟨F, by rw [tG]; exact hg, by rw [tG]; exact tO⟩)).mono ?_
  rintro e w' ⟨hb, h | ⟨t, fin, hg, hW, tG, tW, tO, he, F, St, hl, Rw, hA⟩⟩
  · exact ⟨hb, .inl h⟩
  · have H : Law t := ⟨F, by rw [tG]; exact hg, by rw [tG]; exact tO⟩
    exact ⟨hb, .inr ⟨hg.may, hg.cyc, hW, t, fin, H, tG, tW, he, St, hl, Rw, sol_of H hA⟩⟩
end Go.Proofs.Ytbidpeggdhkahaa
