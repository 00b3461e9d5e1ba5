/-
  L1: an argument that is a grammar, opened: how it lies.
  L4: an argument that is a place, opened: three numbers.
-/
import Derived.Test.YtbidpeggdhkahaaGreatA1
import Derived.Test.YtbidpeggdhkahaaGreatRows
import Derived.WalkKit
import Derived.ProofKit
import Derived.OpenShut
import Derived.ShutString
import Derived.ChangeOld
import Derived.Below
import Derived.SizedLaws
import Derived.Deep.Slices
import Derived.Deep.Strs
import Derived.ChangeSame
set_option linter.unusedSimpArgs false
set_option linter.unusedVariables false
namespace Go.Proofs.YtbidpeggdhkahaaGreat
open Go.ChangeShapes Go.WideShapes Go.ChangeAt Go.RowKit
open Go.ChangeMaps (open_string shut_string)

theorem addr_add_add (a : Addr) (x y : Nat) : (a.add x).add y = a.add (x + y) := by
  unfold Addr.add
  by_cases hx : x = 0
  · subst hx; simp
  · by_cases hy : y = 0
    · subst hy; simp [hx]
    · have : x + y ≠ 0 := by omega
      simp [hx, hy, this, Nat.add_assoc]

section
variable {H : Type} {enc : TypeId × Value → H} {P : Program}
/-- What is read at the type t lies as d says. -/
def Opens (enc : TypeId × Value → H) (P : Program) {α : Type} (d : Rd α) (t : TypeId) : Prop :=
  P.cellsOf t = d.sz ∧ ∀ (w : World) (base : Nat) (spare : Nat → Bool) (held : Bool) (fuel : Nat) (cs : List Value) (x : DataW H × List MemPlace), DataW.trod enc P w base spare held fuel t cs = some x → ∃ y : α, d.K w y cs
theorem opens_int {t : TypeId} (ht : P.underlying t = some (.int .i64)) (hc : P.cellsOf t = 1) : Opens enc P Rd.int t :=
  ⟨hc, fun w base spare held fuel cs x h => by obtain ⟨n, rfl, -, -⟩ := DataW.trod_int ht h; exact ⟨n, rfl⟩⟩
theorem opens_bool {t : TypeId} (ht : P.underlying t = some .bool) (hc : P.cellsOf t = 1) : Opens enc P Rd.bool t :=
  ⟨hc, fun w base spare held fuel cs x h => by obtain ⟨n, rfl, -⟩ := DataW.trod_bool ht h; exact ⟨n, rfl⟩⟩
theorem opens_str {t : TypeId} (ht : P.underlying t = some .string) (hc : P.cellsOf t = 1) : Opens enc P Rd.str t :=
  ⟨hc, fun w base spare held fuel cs x h => by obtain ⟨n, rfl, -, -⟩ := DataW.trod_string ht h; exact ⟨n, rfl⟩⟩
theorem choose_list {α : Type} {q : Nat → α → Prop} : ∀ n : Nat, (∀ i, i < n → ∃ y, q i y) → ∃ ys : List α, ys.length = n ∧ ∀ i y, ys[i]? = some y → q i y := by
  intro n
  induction n with
  | zero => intro _; exact ⟨[], rfl, fun i y h => by simp at h⟩
  | succ n ih =>
    intro h
    obtain ⟨ys, hl, hq⟩ := ih (fun i hi => h i (by omega))
    obtain ⟨y, hy⟩ := h n (by omega)
    refine ⟨ys ++ [y], by simp [hl], fun i z hz => ?_⟩
    rcases Nat.lt_trichotomy i n with hi | hi | hi
    · rw [List.getElem?_append_left (by omega)] at hz
      exact hq i z hz
    · subst hi
      rw [List.getElem?_append_right (by omega), hl, Nat.sub_self] at hz
      cases hz
      exact hy
    · rw [List.getElem?_eq_none (by simp [hl]; omega)] at hz
      cases hz
theorem opens_sl {t e : TypeId} {α : Type} {d : Rd α} (ht : P.underlying t = some (.slice e)) (hc : P.cellsOf t = 1) (he : Opens enc P d e) : Opens enc P (Rd.sl d) t := by
  refine ⟨hc, fun w base spare held fuel cs x h => ?_⟩
  rcases Go.Deep.open_slice ht h with ⟨rfl, -⟩ | ⟨a, len, cap, m, n, D, Pl, rfl, -, hl, hm, rfl, -, hx⟩
  · exact ⟨[], none, 0, rfl, Nat.le_refl _, by decide, Rd.C.nil d w none⟩
  · have hlen : len ≤ (if spare a.block then cap else len) := by split <;> omega
    obtain ⟨ys, hy, hq⟩ := choose_list (q := fun i y => ∃ cs', d.K w y cs' ∧ ∀ (j : Nat) (v : Value), cs'[j]? = some v → w.cell? (a.add (i * d.sz + j)) = some v) len (fun i hi => by
      obtain ⟨cs', h1, h2⟩ := hx i (by omega)
      obtain ⟨y, hy⟩ := he.2 w base spare held n cs' _ h2
      obtain ⟨-, hlen', hcell⟩ := World.cells?_some h1
      refine ⟨y, cs', hy, fun j v hv => ?_⟩
      have hj : j < P.cellsOf e := by rw [← hlen']; exact (List.getElem?_eq_some_iff.1 hv).1
      have := hcell j hj
      rw [addr_add_add, he.1] at this
      rw [this, hv])
    subst hy
    exact ⟨ys, some a, cap, rfl, hl, by unfold maxLen at hm; omega, fun i y hy => by obtain ⟨cs', h1, h2⟩ := hq i y hy; exact ⟨a, cs', rfl, h1, h2⟩⟩
theorem opens_pair {t : TypeId} {α β : Type} {a : Rd α} {b : Rd β} {f0 f1 : Field} (ht : P.underlying t = some (.struct #[f0, f1])) (hc : P.cellsOf t = a.sz + b.sz) (h0 : f0.offset = 0) (h1 : f1.offset = a.sz) (ha : Opens enc P a f0.type) (hb : Opens enc P b f1.type) : Opens enc P (Rd.pair a b) t := by
  refine ⟨hc, fun w base spare held fuel cs x h => ?_⟩
  obtain ⟨y0, y1, n, -, hl, e0, e1⟩ := trod_struct2 ht h
  rw [h0, ha.1, List.drop_zero] at e0
  rw [h1, hb.1] at e1
  obtain ⟨u, hu⟩ := ha.2 _ _ _ _ _ _ _ e0
  obtain ⟨v, hv⟩ := hb.2 _ _ _ _ _ _ _ e1
  refine ⟨(u, v), _, _, ?_, hu, hv⟩
  rw [List.take_of_length_le (l := cs.drop a.sz) (by simp; omega), List.take_append_drop]
theorem opens_trip {t : TypeId} {α β γ : Type} {a : Rd α} {b : Rd β} {c : Rd γ} {f0 f1 f2 : Field} (ht : P.underlying t = some (.struct #[f0, f1, f2])) (hc : P.cellsOf t = a.sz + (b.sz + c.sz)) (h0 : f0.offset = 0) (h1 : f1.offset = a.sz) (h2 : f2.offset = a.sz + b.sz) (ha : Opens enc P a f0.type) (hb : Opens enc P b f1.type) (hcc : Opens enc P c f2.type) : Opens enc P (Rd.pair a (Rd.pair b c)) t := by
  refine ⟨hc, fun w base spare held fuel cs x h => ?_⟩
  obtain ⟨y0, y1, y2, n, -, hl, e0, e1, e2⟩ := Go.Deep.trod_struct3 ht h
  rw [h0, ha.1, List.drop_zero] at e0
  rw [h1, hb.1] at e1
  rw [h2, hcc.1] at e2
  obtain ⟨u, hu⟩ := ha.2 _ _ _ _ _ _ _ e0
  obtain ⟨v, hv⟩ := hb.2 _ _ _ _ _ _ _ e1
  obtain ⟨z, hz⟩ := hcc.2 _ _ _ _ _ _ _ e2
  refine ⟨(u, v, z), _, _, ?_, hu, _, _, rfl, hv, hz⟩
  rw [List.take_of_length_le (l := cs.drop (a.sz + b.sz)) (by simp; omega), ← List.drop_drop, List.take_append_drop, List.take_append_drop]
theorem opens_iso {t : TypeId} {α β : Type} {d : Rd α} {f : β → α} (g : α → β) (hf : ∀ x, f (g x) = x) (h : Opens enc P d t) : Opens enc P (Rd.iso d f) t :=
  ⟨h.1, fun w base spare held fuel cs x hx => by
    obtain ⟨y, hy⟩ := h.2 _ _ _ _ _ _ _ hx
    refine ⟨g y, ?_⟩
    show d.K w (f (g y)) cs
    rw [hf]
    exact hy⟩
end

theorem opens_gram {H : Type} (enc : TypeId × Value → H) : Opens enc Tryz.prog gramRd 25 := by
  have i3 : Opens enc Tryz.prog Rd.int 3 := opens_int Tryz.underlying3 (by kernel_rfl)
  have i4 : Opens enc Tryz.prog Rd.bool 4 := opens_bool Tryz.underlying4 (by kernel_rfl)
  have i9 : Opens enc Tryz.prog Rd.str 9 := opens_str Tryz.underlying9 (by kernel_rfl)
  have s44 : Opens enc Tryz.prog symRd 83 := opens_iso (fun x => ⟨x.1, x.2.1, x.2.2⟩) (fun _ => rfl) (opens_trip Tryz.underlying83 (by kernel_rfl) rfl rfl rfl i3 i3 i3)
  have s45 : Opens enc Tryz.prog (Rd.sl symRd) 48 := opens_sl Tryz.underlying48 (by kernel_rfl) s44
  have s48 : Opens enc Tryz.prog conjRd 50 := opens_iso (fun x => ⟨x.1, x.2⟩) (fun _ => rfl) (opens_pair Tryz.underlying50 (by kernel_rfl) rfl rfl i4 s45)
  have s49 : Opens enc Tryz.prog (Rd.sl conjRd) 45 := opens_sl Tryz.underlying45 (by kernel_rfl) s48
  have s53 : Opens enc Tryz.prog rulRd 47 := opens_iso (fun x => ⟨x.1, x.2⟩) (fun _ => rfl) (opens_pair Tryz.underlying47 (by kernel_rfl) rfl rfl i3 s49)
  have s23 : Opens enc Tryz.prog (Rd.sl rulRd) 23 := opens_sl Tryz.underlying23 (by kernel_rfl) s53
  have s22 : Opens enc Tryz.prog (Rd.sl Rd.str) 22 := opens_sl Tryz.underlying22 (by kernel_rfl) i9
  exact opens_iso (fun x => ⟨x.1, x.2.1, x.2.2⟩) (fun _ => rfl) (opens_trip Tryz.underlying25 (by kernel_rfl) rfl rfl rfl i3 s22 s23)

set_option maxRecDepth 100000 in
/-- A grammar among the arguments. -/
theorem gram_open {H : Type} {enc : TypeId × Value → H} {w : World} {b0 base : Nat} {r : Reach} {spare : Nat → Bool} {held : Bool} {v : Value} {d : DataW H} {ps : List MemPlace} (hval : Value.okWide Tryz.prog w r b0 25 v) (h : DataW.Trod enc Tryz.prog w base spare held 25 v d ps) :
    ∃ (G : Gram) (A : Option Addr) (c : Nat) (A' : Option Addr) (c' : Nat), v = .agg #[.int .i64 G.start, .slice A G.names.length c, .slice A' G.rules.length c'] ∧ G.names.length ≤ c ∧ c ≤ 9223372036854775807 ∧ Rd.str.C w A G.names ∧ G.rules.length ≤ c' ∧ c' ≤ 9223372036854775807 ∧ rulRd.C w A' G.rules := by
  obtain ⟨cs, rfl, -⟩ := okWide_struct Tryz.underlying25 hval
  obtain ⟨fuel, hf⟩ := h
  obtain ⟨G, hG⟩ := (opens_gram enc).2 _ _ _ _ _ _ _ hf
  obtain ⟨A, c, A', c', e, h1, h2, h3, h4, h5, h6⟩ := gramRd_open hG
  refine ⟨G, A, c, A', c', ?_, h1, h2, h3, h4, h5, h6⟩
  have e' : cs.toList = [.int .i64 G.start, .slice A G.names.length c, .slice A' G.rules.length c'] := e
  rw [← Array.toArray_toList (xs := cs), e']
end Go.Proofs.YtbidpeggdhkahaaGreat

set_option linter.unusedSimpArgs false
set_option linter.unusedVariables false
namespace Go.Proofs.YtbidpeggdhkahaaGreat
open Go.ChangeShapes Go.WideShapes Go.ChangeAt Go.RowKit

theorem opens_place {H : Type} (enc : TypeId × Value → H) : Opens enc Tryz.prog symRd 57 := by
  have i3 : Opens enc Tryz.prog Rd.int 3 := opens_int Tryz.underlying3 (by kernel_rfl)
  exact opens_iso (fun x => ⟨x.1, x.2.1, x.2.2⟩) (fun _ => rfl) (opens_trip Tryz.underlying57 (by kernel_rfl) rfl rfl rfl i3 i3 i3)
set_option maxRecDepth 100000 in
/-- A place among the arguments. -/
theorem place_open {H : Type} {enc : TypeId × Value → H} {w : World} {b0 base : Nat} {r : Reach} {spare : Nat → Bool} {held : Bool} {v : Value} {d : DataW H} {ps : List MemPlace} (hval : Value.okWide Tryz.prog w r b0 57 v) (h : DataW.Trod enc Tryz.prog w base spare held 57 v d ps) :
    ∃ a b c : Int, v = .agg #[.int .i64 a, .int .i64 b, .int .i64 c] := by
  obtain ⟨cs, rfl, -⟩ := okWide_struct Tryz.underlying57 hval
  obtain ⟨fuel, hf⟩ := h
  obtain ⟨G, hG⟩ := (opens_place enc).2 _ _ _ _ _ _ _ hf
  have e := symRd_open hG
  refine ⟨G.name, G.lo, G.hi, ?_⟩
  have e' : cs.toList = [.int .i64 G.name, .int .i64 G.lo, .int .i64 G.hi] := e
  rw [← Array.toArray_toList (xs := cs), e']
end Go.Proofs.YtbidpeggdhkahaaGreat
