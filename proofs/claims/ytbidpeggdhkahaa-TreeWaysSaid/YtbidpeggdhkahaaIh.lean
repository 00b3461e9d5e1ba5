/-
  Ih: templelaw0.SameBranchs of what is the same; a branch is itself.
-/
import Derived.Test.YtbidpeggdhkahaaIg
import Derived.Test.YtbidpeggdhkahaaHe
set_option linter.unusedSimpArgs false
set_option linter.unusedVariables false
namespace Go.Proofs.Ytbidpeggdhkahaa
open Go.RowKit

def brV (b : Brn) : Value := .agg #[.int .i64 b.name, .int .i64 b.rule, .int .i64 b.i, .int .i64 b.j, .int .i64 b.kids]
theorem br_fields : (Try.prog.fieldsOf 41).toList.map (fun f => (f.name == "_", f.type, f.offset)) = [(false, 3, 0), (false, 3, 1), (false, 3, 2), (false, 3, 3), (false, 3, 4)] := by kernel_rfl
theorem br_held : Try.prog.stoodInHeld 41 = false := by kernel_rfl
theorem br_under : Try.prog.underlying 41 = some (.struct (Try.prog.fieldsOf 41)) := by kernel_rfl
theorem br_guard : Try.prog.eqGuardType Try.prog.depth 41 = false := by kernel_rfl
theorem eqBr (d : Nat) (a : Brn) (w : World) : (Op.equalIn (d + 2) 41 (.agg #[.int .i64 a.name, .int .i64 a.rule, .int .i64 a.i, .int .i64 a.j, .int .i64 a.kids]) (.agg #[.int .i64 a.name, .int .i64 a.rule, .int .i64 a.i, .int .i64 a.j, .int .i64 a.kids])).run Try.prog w = .ok true w := by
  rw [run_equalIn_struct w (d + 1) 41 _ _ br_under br_held, eqFields_eq, br_fields]
  rw [eqFs_int _ _ _ 0 a.name a.name _ rfl rfl, eqFs_int _ _ _ 1 a.rule a.rule _ rfl rfl, eqFs_int _ _ _ 2 a.i a.i _ rfl rfl, eqFs_int _ _ _ 3 a.j a.j _ rfl rfl, eqFs_int _ _ _ 4 a.kids a.kids _ rfl rfl]
  simp [eqFs]
theorem run_br_neq (a : Brn) (w : World) : (binOp .neq 41 (.agg #[.int .i64 a.name, .int .i64 a.rule, .int .i64 a.i, .int .i64 a.j, .int .i64 a.kids]) (.agg #[.int .i64 a.name, .int .i64 a.rule, .int .i64 a.i, .int .i64 a.j, .int .i64 a.kids])).run Try.prog w = .ok (.bool false) w := by
  have := eqBr 9998 a w
  rw [run_neq_struct, this]; rfl
theorem run_br_eql (a : Brn) (w : World) : (binOp .eql 41 (.agg #[.int .i64 a.name, .int .i64 a.rule, .int .i64 a.i, .int .i64 a.j, .int .i64 a.kids]) (.agg #[.int .i64 a.name, .int .i64 a.rule, .int .i64 a.i, .int .i64 a.j, .int .i64 a.kids])).run Try.prog w = .ok (.bool true) w := by
  have := eqBr 9998 a w
  rw [run_eql_struct, this]; rfl
structure BrAt (w : World) (a : Addr) (b : Brn) : Prop where
  c0 : w.cell? a = some (.int .i64 b.name)
  c1 : w.cell? ⟨a.block, a.off + 1, none⟩ = some (.int .i64 b.rule)
  c2 : w.cell? ⟨a.block, a.off + 2, none⟩ = some (.int .i64 b.i)
  c3 : w.cell? ⟨a.block, a.off + 3, none⟩ = some (.int .i64 b.j)
  c4 : w.cell? ⟨a.block, a.off + 4, none⟩ = some (.int .i64 b.kids)
theorem br_at {w : World} {A : Option Addr} {xs : List Brn} (h : brnRd.C w A xs) {i : Nat} {x : Brn} (hx : xs[i]? = some x) : ∃ ad, A = some ad ∧ BrAt w (ad.add (i * 5)) x := by
  obtain ⟨ad, cs, hA, hK, hc⟩ := h i x hx
  have hK : cs = brnCs x := hK
  subst hK
  have h0 := hc 0 _ rfl
  have h1 := hc 1 _ rfl
  have h2 := hc 2 _ rfl
  have h3 := hc 3 _ rfl
  have h4 := hc 4 _ rfl
  rw [show brnRd.sz = 5 from rfl] at h0 h1 h2 h3 h4
  rw [add_off _ _ _ (by omega)] at h1 h2 h3 h4
  exact ⟨ad, hA, h0, h1, h2, h3, h4⟩
def ToNb (w : World) (n : Nat) (cnt : Value) (wr : World) : Prop := ∃ k : Nat, cnt = .int .i64 k ∧ k ≤ n ∧ Below w.heap.size w wr

set_option maxRecDepth 100000 in
set_option maxHeartbeats 4000000 in
theorem same_brs {w : World} {bs : List Brn} {A B : Option Addr} {a b : Nat} (h1 : brnRd.C w A bs) (h2 : brnRd.C w B bs) (hl : bs.length ≤ 9223372036854775807) :
    Calls Try.prog 12 #[.slice A bs.length a, .slice B bs.length b] w fun e w' => e = .returned (.bool true) ∧ Below w.heap.size w w' := by
  have H1 := Lib.hid h1
  have H2 := Lib.hid h2
  clear h1 h2
  go_enter Try.func12, Try.ntmps12
  go_wp2_with fail
  go_loopw [5] (fun cnt wr => ToNb w bs.length cnt wr) (fun cnt _ => bs.length - (intOf cnt).toNat)
  case atStart => exact ⟨0, rfl, Nat.zero_le _, below_refl _⟩
  case round =>
    obtain ⟨k, rfl, hk, hb⟩ := hrel
    have HB := Lib.hid hb
    clear hb
    by_cases hlt : k < bs.length
    · obtain ⟨s, hs⟩ : ∃ s, bs[k]? = some s := ⟨_, List.getElem?_eq_getElem hlt⟩
      obtain ⟨ad, eA, K1⟩ := br_at (H1.out.mono HB.out) hs
      obtain ⟨bd, eB, K2⟩ := br_at (H2.out.mono HB.out) hs
      subst eA eB
      have hki : (k : Int) < bs.length := by omega
      have P0 := Lib.hid K1.c0
      have P1 := Lib.hid K1.c1
      have P2 := Lib.hid K1.c2
      have P3 := Lib.hid K1.c3
      have P4 := Lib.hid K1.c4
      have Q0 := Lib.hid K2.c0
      have Q1 := Lib.hid K2.c1
      have Q2 := Lib.hid K2.c2
      have Q3 := Lib.hid K2.c3
      have Q4 := Lib.hid K2.c4
      have KE := run_br_neq s
      have KG := br_guard
      clear hs K1 K2
      go_wp2_with fail
      refine wp_region_below (by kernel_rfl) (by kernel_rfl) ?_
      repeat (first
        | (refine qv_skip (by rfl) ?_; simp only [Act.put, List.setIfInBounds_toArray, List.set_cons_zero, List.set_cons_succ])
        | (refine qv_val' (by rfl) ?_; apply Exists.intro; refine ⟨fun w5 hC => ?_, ?_⟩; (have qqr0 := below_cell hC P0.out; have qqr1 := below_cell hC P1.out; have qqr2 := below_cell hC P2.out; have qqr3 := below_cell hC P3.out; have qqr4 := below_cell hC P4.out; have qqr5 := below_cell hC Q0.out; have qqr6 := below_cell hC Q1.out; have qqr7 := below_cell hC Q2.out; have qqr8 := below_cell hC Q3.out; have qqr9 := below_cell hC Q4.out; go_simp; rfl); simp only [Act.put, List.setIfInBounds_toArray, List.set_cons_zero, List.set_cons_succ]))
      refine qv_nil ?_
      intro w5 hC
      have HB5 := Lib.hid (below_then HB.out hC)
      clear hC
      go_wp2_with fail
      go_roundw
      case rel => exact ⟨k + 1, by go_num, by omega, HB5.out⟩
      case measure => simp [intOf]; omega
    · have b1 : ¬ ((k : Int) < bs.length) := by omega
      go_wp2_with fail
      go_ret
      exact ⟨rfl, HB.out⟩
end Go.Proofs.Ytbidpeggdhkahaa
