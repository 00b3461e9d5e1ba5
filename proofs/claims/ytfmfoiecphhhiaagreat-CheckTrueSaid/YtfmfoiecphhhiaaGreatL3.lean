/-
  L3: an argument that is a proof (a certificate), opened: how it lies; its numbers are in Go's range.
-/
import Derived.Test.YtfmfoiecphhhiaaGreatL1
import Derived.Test.YtfmfoiecphhhiaaGreatHd
set_option linter.unusedSimpArgs false
set_option linter.unusedVariables false
namespace Go.Proofs.YtfmfoiecphhhiaaGreat
open Go.ChangeShapes Go.WideShapes Go.ChangeAt Go.RowKit

section
variable {H : Type} {enc : TypeId × Value → H} {P : Program}
/-- What is read at the type t lies as d says and fulfils V. -/
def OpensV (enc : TypeId × Value → H) (P : Program) {α : Type} (d : Rd α) (t : TypeId) (V : α → Prop) : Prop :=
  P.cellsOf t = d.sz ∧ ∀ (w : World) (base : Nat) (spare : Nat → Bool) (held : Bool) (fuel : Nat) (cs : List Value) (x : DataW H × List MemPlace), DataW.trod enc P w base spare held fuel t cs = some x → ∃ y : α, d.K w y cs ∧ V y
theorem opensV_of {α : Type} {d : Rd α} {t : TypeId} (h : Opens enc P d t) : OpensV enc P d t (fun _ => True) :=
  ⟨h.1, fun w base spare held fuel cs x hx => let ⟨y, hy⟩ := h.2 w base spare held fuel cs x hx; ⟨y, hy, trivial⟩⟩
theorem opensV_sl {t e : TypeId} {α : Type} {d : Rd α} {V : α → Prop} (ht : P.underlying t = some (.slice e)) (hc : P.cellsOf t = 1) (he : OpensV enc P d e V) : OpensV enc P (Rd.sl d) t (fun ys => ∀ y ∈ ys, V y) := by
  refine ⟨hc, fun w base spare held fuel cs x h => ?_⟩
  rcases Go.Deep.open_slice ht h with ⟨rfl, -⟩ | ⟨a, len, cap, m, n, D, Pl, rfl, -, hl, hm, rfl, -, hx⟩
  · exact ⟨[], ⟨none, 0, rfl, Nat.le_refl _, by decide, Rd.C.nil d w none⟩, fun y hy => by cases hy⟩
  · have hlen : len ≤ (if spare a.block then cap else len) := by split <;> omega
    obtain ⟨ys, hy, hq⟩ := choose_list (q := fun i y => (∃ cs', d.K w y cs' ∧ ∀ (j : Nat) (v : Value), cs'[j]? = some v → w.cell? (a.add (i * d.sz + j)) = some v) ∧ V y) len (fun i hi => by
      obtain ⟨cs', h1, h2⟩ := hx i (by omega)
      obtain ⟨y, hy, hv⟩ := he.2 w base spare held n cs' _ h2
      obtain ⟨-, hlen', hcell⟩ := World.cells?_some h1
      refine ⟨y, ⟨cs', hy, fun j v hv => ?_⟩, hv⟩
      have hj : j < P.cellsOf e := by rw [← hlen']; exact (List.getElem?_eq_some_iff.1 hv).1
      have := hcell j hj
      rw [addr_add_add, he.1] at this
      rw [this, hv])
    subst hy
    refine ⟨ys, ⟨some a, cap, rfl, hl, by unfold maxLen at hm; omega, fun i y hy => by obtain ⟨⟨cs', h1, h2⟩, -⟩ := hq i y hy; exact ⟨a, cs', rfl, h1, h2⟩⟩, fun y hy => ?_⟩
    obtain ⟨i, hi⟩ := List.getElem?_of_mem hy
    exact (hq i y hi).2
end
theorem wf_range {n : Int} (h : (Lit.int .i64 n).wf = true) : -9223372036854775808 ≤ n ∧ n ≤ 9223372036854775807 := by
  simp [Lit.wf, IntKind.min, IntKind.max, IntKind.bits, IntKind.signed] at h
  omega
theorem cells10 {l : List Value} (h : l.length = 10) : ∃ a0 a1 a2 a3 a4 a5 a6 a7 a8 a9, l = [a0, a1, a2, a3, a4, a5, a6, a7, a8, a9] := by
  match l, h with
  | [a0, a1, a2, a3, a4, a5, a6, a7, a8, a9], _ => exact ⟨a0, a1, a2, a3, a4, a5, a6, a7, a8, a9, rfl⟩
theorem cells3 {l : List Value} (h : l.length = 3) : ∃ a0 a1 a2, l = [a0, a1, a2] := by
  match l, h with
  | [a0, a1, a2], _ => exact ⟨a0, a1, a2, rfl⟩
theorem cInt : Tryz.prog.cellsOf 3 = 1 := by kernel_rfl
theorem cBool : Tryz.prog.cellsOf 4 = 1 := by kernel_rfl
theorem cPlace : Tryz.prog.cellsOf 45 = 3 := by kernel_rfl
theorem cPicks : Tryz.prog.cellsOf 46 = 1 := by kernel_rfl

section
variable {H : Type} (enc : TypeId × Value → H)
theorem opens_pick : Opens enc Tryz.prog pckRd 60 := by
  have i3 : Opens enc Tryz.prog Rd.int 3 := opens_int Tryz.underlying3 (by kernel_rfl)
  have s3 : Opens enc Tryz.prog (Rd.sl Rd.int) 58 := opens_sl Tryz.underlying58 (by kernel_rfl) i3
  exact opens_iso (fun x => ⟨x.1, x.2.1, x.2.2⟩) (fun _ => rfl) (opens_trip Tryz.underlying60 (by kernel_rfl) rfl rfl rfl i3 i3 s3)
set_option maxRecDepth 100000 in
theorem opensV_node : OpensV enc Tryz.prog nodRd 48 (fun x => KyWf x.ky) := by
  have sp := opens_sl Tryz.underlying46 (by kernel_rfl) (opens_pick enc)
  refine ⟨by kernel_rfl, fun w base spare held fuel cs x h => ?_⟩
  obtain ⟨xs, n, -, -, hl, hxl, hf⟩ := DataW.trod_struct Tryz.underlying48 h
  obtain ⟨a0, a1, a2, a3, a4, a5, a6, a7, a8, a9, rfl⟩ := cells10 (hl.trans (by kernel_rfl))
  have get : ∀ i, i < 8 → ∃ y, xs[i]? = some y := fun i hi => ⟨_, List.getElem?_eq_getElem (by rw [hxl]; exact hi)⟩
  obtain ⟨y0, e0⟩ := get 0 (by decide)
  obtain ⟨y1, e1⟩ := get 1 (by decide)
  obtain ⟨y2, e2⟩ := get 2 (by decide)
  obtain ⟨y3, e3⟩ := get 3 (by decide)
  obtain ⟨y4, e4⟩ := get 4 (by decide)
  obtain ⟨y5, e5⟩ := get 5 (by decide)
  obtain ⟨y6, e6⟩ := get 6 (by decide)
  obtain ⟨y7, e7⟩ := get 7 (by decide)
  have f0 : DataW.trod enc Tryz.prog w base spare held n 4 (([a0, a1, a2, a3, a4, a5, a6, a7, a8, a9].drop 0).take (Tryz.prog.cellsOf 4)) = some y0 := (hf 0 _ rfl).trans e0
  rw [cBool] at f0
  have g0 : DataW.trod enc Tryz.prog w base spare held n 4 [a0] = some y0 := f0
  have f1 : DataW.trod enc Tryz.prog w base spare held n 3 (([a0, a1, a2, a3, a4, a5, a6, a7, a8, a9].drop 1).take (Tryz.prog.cellsOf 3)) = some y1 := (hf 1 _ rfl).trans e1
  rw [cInt] at f1
  have g1 : DataW.trod enc Tryz.prog w base spare held n 3 [a1] = some y1 := f1
  have f2 : DataW.trod enc Tryz.prog w base spare held n 3 (([a0, a1, a2, a3, a4, a5, a6, a7, a8, a9].drop 2).take (Tryz.prog.cellsOf 3)) = some y2 := (hf 2 _ rfl).trans e2
  rw [cInt] at f2
  have g2 : DataW.trod enc Tryz.prog w base spare held n 3 [a2] = some y2 := f2
  have f3 : DataW.trod enc Tryz.prog w base spare held n 45 (([a0, a1, a2, a3, a4, a5, a6, a7, a8, a9].drop 3).take (Tryz.prog.cellsOf 45)) = some y3 := (hf 3 _ rfl).trans e3
  rw [cPlace] at f3
  have g3 : DataW.trod enc Tryz.prog w base spare held n 45 [a3, a4, a5] = some y3 := f3
  have f4 : DataW.trod enc Tryz.prog w base spare held n 3 (([a0, a1, a2, a3, a4, a5, a6, a7, a8, a9].drop 6).take (Tryz.prog.cellsOf 3)) = some y4 := (hf 4 _ rfl).trans e4
  rw [cInt] at f4
  have g4 : DataW.trod enc Tryz.prog w base spare held n 3 [a6] = some y4 := f4
  have f5 : DataW.trod enc Tryz.prog w base spare held n 3 (([a0, a1, a2, a3, a4, a5, a6, a7, a8, a9].drop 7).take (Tryz.prog.cellsOf 3)) = some y5 := (hf 5 _ rfl).trans e5
  rw [cInt] at f5
  have g5 : DataW.trod enc Tryz.prog w base spare held n 3 [a7] = some y5 := f5
  have f6 : DataW.trod enc Tryz.prog w base spare held n 3 (([a0, a1, a2, a3, a4, a5, a6, a7, a8, a9].drop 8).take (Tryz.prog.cellsOf 3)) = some y6 := (hf 6 _ rfl).trans e6
  rw [cInt] at f6
  have g6 : DataW.trod enc Tryz.prog w base spare held n 3 [a8] = some y6 := f6
  have f7 : DataW.trod enc Tryz.prog w base spare held n 46 (([a0, a1, a2, a3, a4, a5, a6, a7, a8, a9].drop 9).take (Tryz.prog.cellsOf 46)) = some y7 := (hf 7 _ rfl).trans e7
  rw [cPicks] at f7
  have g7 : DataW.trod enc Tryz.prog w base spare held n 46 [a9] = some y7 := f7
  obtain ⟨b0, h0, -, -⟩ := DataW.trod_bool Tryz.underlying4 g0
  obtain ⟨n1, h1, -, w1⟩ := DataW.trod_int Tryz.underlying3 g1
  obtain ⟨n2, h2, -, w2⟩ := DataW.trod_int Tryz.underlying3 g2
  obtain ⟨ys, n', -, -, hl3, hyl, hf3⟩ := DataW.trod_struct Tryz.underlying45 g3
  have get3 : ∀ i, i < 3 → ∃ y, ys[i]? = some y := fun i hi => ⟨_, List.getElem?_eq_getElem (by rw [hyl]; exact hi)⟩
  obtain ⟨z0, d0⟩ := get3 0 (by decide)
  obtain ⟨z1, d1⟩ := get3 1 (by decide)
  obtain ⟨z2, d2⟩ := get3 2 (by decide)
  have p0 : DataW.trod enc Tryz.prog w base spare held n' 3 (([a3, a4, a5].drop 0).take (Tryz.prog.cellsOf 3)) = some z0 := (hf3 0 _ rfl).trans d0
  rw [cInt] at p0
  have q0 : DataW.trod enc Tryz.prog w base spare held n' 3 [a3] = some z0 := p0
  have p1 : DataW.trod enc Tryz.prog w base spare held n' 3 (([a3, a4, a5].drop 1).take (Tryz.prog.cellsOf 3)) = some z1 := (hf3 1 _ rfl).trans d1
  rw [cInt] at p1
  have q1 : DataW.trod enc Tryz.prog w base spare held n' 3 [a4] = some z1 := p1
  have p2 : DataW.trod enc Tryz.prog w base spare held n' 3 (([a3, a4, a5].drop 2).take (Tryz.prog.cellsOf 3)) = some z2 := (hf3 2 _ rfl).trans d2
  rw [cInt] at p2
  have q2 : DataW.trod enc Tryz.prog w base spare held n' 3 [a5] = some z2 := p2
  obtain ⟨n3, h3, -, w3⟩ := DataW.trod_int Tryz.underlying3 q0
  obtain ⟨n4, h4, -, w4⟩ := DataW.trod_int Tryz.underlying3 q1
  obtain ⟨n5, h5, -, w5⟩ := DataW.trod_int Tryz.underlying3 q2
  obtain ⟨n6, h6, -, w6⟩ := DataW.trod_int Tryz.underlying3 g4
  obtain ⟨n7, h7, -, w7⟩ := DataW.trod_int Tryz.underlying3 g5
  obtain ⟨n8, h8, -, w8⟩ := DataW.trod_int Tryz.underlying3 g6
  obtain ⟨pk, hpk⟩ := sp.2 _ _ _ _ _ _ _ g7
  obtain ⟨A1, c1, h9, k1, k2, k3⟩ := hpk
  injection h0 with h0
  injection h1 with h1
  injection h2 with h2
  injection h3 with h3
  injection h4 with h4
  injection h5 with h5
  injection h6 with h6
  injection h7 with h7
  injection h8 with h8
  injection h9 with h9
  subst h0 h1 h2 h3 h4 h5 h6 h7 h8 h9
  refine ⟨⟨b0, n1, n2, ⟨n3, n4, n5⟩, n6, n7, n8, pk⟩, nodRd_mk (x := ⟨b0, n1, n2, ⟨n3, n4, n5⟩, n6, n7, n8, pk⟩) k1 k2 k3, ?_⟩
  intro m hm
  simp only [Nod.ky, List.mem_cons, List.not_mem_nil, or_false] at hm
  rcases hm with rfl | rfl | rfl | rfl | rfl | rfl | rfl
  · exact wf_range w1
  · exact wf_range w2
  · exact wf_range w3
  · exact wf_range w4
  · exact wf_range w5
  · exact wf_range w6
  · exact wf_range w7
set_option maxRecDepth 100000 in
theorem opensV_cert : OpensV enc Tryz.prog crtRd 28 (fun C => ∀ x ∈ C.nodes, KyWf x.ky) := by
  have s1 := opensV_sl Tryz.underlying26 (by kernel_rfl) (opensV_node enc)
  refine ⟨by kernel_rfl, fun w base spare held fuel cs x h => ?_⟩
  obtain ⟨y0, y1, n, -, hl, e0, e1⟩ := trod_struct2 Tryz.underlying28 h
  match cs, hl.trans (show Tryz.prog.cellsOf 28 = 2 by kernel_rfl) with
  | [a0, a1], _ =>
    have f0 : DataW.trod enc Tryz.prog w base spare held n 3 (([a0, a1].drop 0).take (Tryz.prog.cellsOf 3)) = some y0 := e0
    rw [cInt] at f0
    have g0 : DataW.trod enc Tryz.prog w base spare held n 3 [a0] = some y0 := f0
    have f1 : DataW.trod enc Tryz.prog w base spare held n 26 (([a0, a1].drop 1).take (Tryz.prog.cellsOf 26)) = some y1 := e1
    rw [show Tryz.prog.cellsOf 26 = 1 by kernel_rfl] at f1
    have g1 : DataW.trod enc Tryz.prog w base spare held n 26 [a1] = some y1 := f1
    obtain ⟨n0, h0, -, -⟩ := DataW.trod_int Tryz.underlying3 g0
    obtain ⟨ns, ⟨A1, c1, h1, k1, k2, k3⟩, hv⟩ := s1.2 _ _ _ _ _ _ _ g1
    injection h0 with h0
    injection h1 with h1
    subst h0 h1
    exact ⟨⟨n0, ns⟩, ⟨[_], [_], rfl, rfl, A1, c1, rfl, k1, k2, k3⟩, hv⟩
end
set_option maxRecDepth 100000 in
/-- A proof among the arguments. -/
theorem cert_open {H : Type} {enc : TypeId × Value → H} {w : World} {b0 base : Nat} {r : Reach} {spare : Nat → Bool} {held : Bool} {v : Value} {d : DataW H} {ps : List MemPlace} (hval : Value.okWide Tryz.prog w r b0 28 v) (h : DataW.Trod enc Tryz.prog w base spare held 28 v d ps) :
    ∃ (C : Crt) (A : Option Addr) (c : Nat), v = .agg #[.int .i64 C.root, .slice A C.nodes.length c] ∧ C.nodes.length ≤ c ∧ c ≤ 9223372036854775807 ∧ nodRd.C w A C.nodes ∧ ∀ x ∈ C.nodes, KyWf x.ky := by
  obtain ⟨cs, rfl, -⟩ := okWide_struct Tryz.underlying28 hval
  obtain ⟨fuel, hf⟩ := h
  obtain ⟨C, hC, hV⟩ := (opensV_cert enc).2 _ _ _ _ _ _ _ hf
  obtain ⟨A, c, e, h1, h2, h3⟩ := crtRd_open hC
  refine ⟨C, A, c, ?_, h1, h2, h3, hV⟩
  have e' : cs.toList = [.int .i64 C.root, .slice A C.nodes.length c] := e
  rw [← Array.toArray_toList (xs := cs), e']
end Go.Proofs.YtfmfoiecphhhiaaGreat
