/-
  Hg: check.Check whole.
-/
import Derived.Test.YtfmfoiecphhhiaaHf
import Derived.Test.YtfmfoiecphhhiaaF5
set_option linter.unusedSimpArgs false
set_option linter.unusedVariables false
namespace Go.Proofs.Ytfmfoiecphhhiaa
open Go.RowKit

/-- What is not asked at all. -/
def NotAsked (G : Gram) (W : ByteArray) (C : Crt) : Prop := RefG G ∨ 32 < W.size ∨ 65536 < C.nodes.length
def CheckPost (w : World) (G : Gram) (W : ByteArray) (C : Crt) (e : Ending) (w' : World) : Prop :=
  Below w.heap.size w w' ∧ ((NotAsked G W C ∧ e = .returned (.tuple #[.bool false, .int .i64 1900])) ∨
    (¬ NotAsked G W C ∧ takenB C G W = false ∧ e = .returned (.tuple #[.bool false, .int .i64 1901])) ∨
    (¬ NotAsked G W C ∧ takenB C G W = true ∧ e = .returned (.tuple #[.bool (signB C), .int .i64 0])))
theorem root_of_taken {C : Crt} {G : Gram} {W : ByteArray} (h : takenB C G W = true) : ∃ (n : Nat) (y : Nod), C.root = (n : Int) ∧ C.nodes[n]? = some y ∧ signB C = y.sign := by
  unfold takenB at h
  simp only [Bool.and_eq_true] at h
  have h2 := h.1.2
  unfold rootB isB at h2
  cases hn : ndAt C C.root with
  | none => rw [hn] at h2; simp at h2
  | some y =>
    obtain ⟨n, e, hlt, hy⟩ := ndAt_some hn
    exact ⟨n, y, e, hy, by unfold signB; rw [hn]⟩

set_option maxRecDepth 100000 in
set_option maxHeartbeats 8000000 in
theorem check_any {w : World} (G : Gram) (W : ByteArray) (C : Crt) {A A' An : Option Addr} {c c' cn : Nat} (hWs : W.size < 9223372036854775807) (n1 : G.names.length ≤ c) (n2 : c ≤ 9223372036854775807) (n3 : Rd.str.C w A G.names) (n4 : G.rules.length ≤ c') (n5 : c' ≤ 9223372036854775807) (n6 : rulRd.C w A' G.rules)
    (m1 : C.nodes.length ≤ cn) (m2 : cn ≤ 9223372036854775807) (m3 : nodRd.C w An C.nodes) (hwf : ∀ x ∈ C.nodes, KyWf x.ky) :
    Calls Try.prog 7 #[.agg #[.int .i64 G.start, .slice A G.names.length c, .slice A' G.rules.length c'], .string W, .agg #[.int .i64 C.root, .slice An C.nodes.length cn]] w (CheckPost w G W C) := by
  have b0 := heap_alloc2_old w (Obj.cells #[.int .i64 G.start, .slice A G.names.length c, .slice A' G.rules.length c'] 32) (Obj.cells #[.int .i64 C.root, .slice An C.nodes.length cn] 40)
  have b2 := heap_alloc2_new w (Obj.cells #[.int .i64 G.start, .slice A G.names.length c, .slice A' G.rules.length c'] 32) (Obj.cells #[.int .i64 C.root, .slice An C.nodes.length cn] 40)
  have hb0 : Below w.heap.size w ((w.alloc (Obj.cells #[.int .i64 G.start, .slice A G.names.length c, .slice A' G.rules.length c'] 32)).alloc (Obj.cells #[.int .i64 C.root, .slice An C.nodes.length cn] 40)) := below_alloc' (below_alloc' (below_refl w) _) _
  have N3 := Lib.hid (n3.mono hb0)
  have N6 := Lib.hid (n6.mono hb0)
  have M3 := Lib.hid (m3.mono hb0)
  have HWF := Lib.hid hwf
  clear n3 n6 m3 hwf
  go_enter Try.func7, Try.ntmps7
  go_wp2_with fail
  generalize (w.alloc (Obj.cells #[.int .i64 G.start, .slice A G.names.length c, .slice A' G.rules.length c'] 32)).alloc (Obj.cells #[.int .i64 C.root, .slice An C.nodes.length cn] 40) = w0 at b0 b2 hb0 N3 N6 M3 ⊢
  have HB0 := Lib.hid hb0
  have HG := Lib.hid b0
  have HCT := Lib.hid b2
  clear b0 b2 hb0
  refine (strata_whole G n1 n2 N3.out n4 n5 N6.out).mono ?_
  rintro e w1 ⟨hb1, ⟨hRef, v, ec, rfl, he1, he2⟩ | ⟨Al, cl, lev, hgood, rfl, -, -, -⟩⟩
  · have HB1 := Lib.hid (below_trans HB0.out hb1)
    have HNA := Lib.hid (show NotAsked G W C from .inl hRef)
    clear hb1 hRef
    go_wp2_with fail
    go_ret2
    exact ⟨HB1.out, .inl ⟨HNA.out, rfl⟩⟩
  · have HB1 := Lib.hid (below_trans HB0.out hb1)
    have HGO := Lib.hid hgood
    have HG1 := Lib.hid (blk_below HG.out hb1)
    have HC1 := Lib.hid (blk_below HCT.out hb1)
    have N31 := Lib.hid (N3.out.mono hb1)
    have N61 := Lib.hid (N6.out.mono hb1)
    have M31 := Lib.hid (M3.out.mono hb1)
    have x0 : w1.cell? ⟨w.heap.size + 1, 0, none⟩ = some (.int .i64 C.root) := blk_cell HC1.out 0
    have x1 : w1.cell? ⟨w.heap.size + 1, 1, none⟩ = some (.slice An C.nodes.length cn) := blk_cell HC1.out 1
    clear hgood N3 N6 M3 HG HCT hb1
    by_cases h1 : 32 < W.size
    · have HNA := Lib.hid (show NotAsked G W C from .inr (.inl h1))
      have d1 : decide ((32 : Int) < (W.size : Int)) = true := decide_eq_true (by omega)
      clear h1
      go_wp2_with fail
      go_ret2
      exact ⟨HB1.out, .inl ⟨HNA.out, rfl⟩⟩
    · have d1 : decide ((32 : Int) < (W.size : Int)) = false := decide_eq_false (by omega)
      by_cases h2 : 65536 < C.nodes.length
      · have HNA := Lib.hid (show NotAsked G W C from .inr (.inr h2))
        have d2 : decide ((65536 : Int) < (C.nodes.length : Int)) = true := decide_eq_true (by omega)
        clear h1 h2
        go_wp2_with fail
        go_ret2
        exact ⟨HB1.out, .inl ⟨HNA.out, rfl⟩⟩
      · have d2 : decide ((65536 : Int) < (C.nodes.length : Int)) = false := decide_eq_false (by omega)
        have HNA := Lib.hid (show ¬ NotAsked G W C by
          rintro ((hm | hc) | hn | hn)
          · rw [HGO.out.may] at hm; cases hm
          · exact HGO.out.cyc hc
          · exact h1 hn
          · exact h2 hn)
        have hM := mayG HGO.out.may
        have h1' : W.size ≤ 32 := by omega
        have h2' : C.nodes.length ≤ 1000000 := by omega
        clear h1 h2
        go_wp2_with fail
        have b3 := heap_alloc_new w1 (Obj.cells #[.pointer (some ⟨w.heap.size, 0, none⟩), .string W, .pointer (some ⟨w.heap.size + 1, 0, none⟩)] 60)
        have hb3 := below_alloc' (below_refl w1) (Obj.cells #[.pointer (some ⟨w.heap.size, 0, none⟩), .string W, .pointer (some ⟨w.heap.size + 1, 0, none⟩)] 60)
        obtain ⟨p3, hp3⟩ : ∃ p, p = w1.heap.size := ⟨_, rfl⟩
        rw [← hp3] at b3 ⊢
        clear hp3
        generalize w1.alloc (Obj.cells #[.pointer (some ⟨w.heap.size, 0, none⟩), .string W, .pointer (some ⟨w.heap.size + 1, 0, none⟩)] 60) = w3 at b3 hb3 ⊢
        have hg3 := blk_below HG1.out hb3
        have hc3 := blk_below HC1.out hb3
        have HCK := Lib.hid (show CkAt w3 ⟨p3, w.heap.size, w.heap.size + 1, G, W, C, A, c, A', c', An, cn⟩ from
          ⟨blk_cell b3 0, blk_cell b3 1, blk_cell b3 2, blk_cell hg3 0, blk_cell hg3 1, blk_cell hg3 2, blk_cell hc3 0, blk_cell hc3 1, N61.out.mono hb3, M31.out.mono hb3⟩)
        have HTK := Lib.hid (taken_ok HCK.out ⟨hM, h1', h2'⟩ HWF.out)
        have HB3 := Lib.hid (below_trans HB1.out hb3)
        clear b3 hg3 hc3 x0 x1 hM d1 d2
        refine HTK.out.mono ?_
        rintro e w4 ⟨rfl, hb4⟩
        have HB4 := Lib.hid (below_trans HB3.out hb4)
        have H4 := Lib.hid (HCK.out.mono hb4)
        clear hb3 hb4
        simp only
        cases ht : takenB C G W with
        | false =>
          have HT := Lib.hid ht
          clear ht
          go_wp2_with fail
          go_ret2
          exact ⟨HB4.out, .inr (.inl ⟨HNA.out, HT.out, rfl⟩)⟩
        | true =>
          have HT := Lib.hid ht
          obtain ⟨n, y, hr, hy, hsg⟩ := root_of_taken ht
          obtain ⟨nd, A1, c1, eA, hNd⟩ := nod_at H4.out.nod hy
          have x0 := H4.out.c0
          have x1 := H4.out.c1
          simp only at x0 x1 eA
          rw [eA] at x1
          rw [hr] at x0
          have y0 := hNd.c0
          have hlt : (n : Int) < C.nodes.length := by have := (List.getElem?_eq_some_iff.1 hy).1; omega
          have HSG := Lib.hid hsg
          clear ht hr hy hsg eA hNd
          go_wp2_with fail
          go_ret2
          exact ⟨HB4.out, .inr (.inr ⟨HNA.out, HT.out, by rw [HSG.out]; rfl⟩)⟩
end Go.Proofs.Ytfmfoiecphhhiaa
