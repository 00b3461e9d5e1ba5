/-
  H7: the checker's symbol, read, on, split.
-/
import Derived.Test.YtfmfoiecphhhiaaH6
set_option linter.unusedSimpArgs false
set_option linter.unusedVariables false
namespace Go.Proofs.Ytfmfoiecphhhiaa
open Go.RowKit

def syV (s : Sym) : Value := .agg #[.int .i64 s.name, .int .i64 s.lo, .int .i64 s.hi]
theorem plcB_of {G : Gram} {p : Plc} (h : plcB G p = true) : ∃ (rn cn qn : Nat) (x : Rul) (y : Conj), p = ⟨(rn : Int), (cn : Int), (qn : Int)⟩ ∧ G.rules[rn]? = some x ∧ x.conj[cn]? = some y ∧ qn ≤ y.seq.length := by
  obtain ⟨rn, cn, qn, x, y, h1, h2, h3, hx, hy, hq⟩ := place_of h
  exact ⟨rn, cn, qn, x, y, by cases p; simp_all, hx, hy, hq⟩
theorem symOf_eq {G : Gram} {rn cn qn : Nat} {x : Rul} {y : Conj} (hx : G.rules[rn]? = some x) (hy : x.conj[cn]? = some y) : symOf G ⟨(rn : Int), (cn : Int), (qn : Int)⟩ = y.seq[qn]? := by
  unfold symOf cjAt
  simp only
  rw [if_neg (by omega), Int.toNat_natCast, hx]
  simp only [Int.toNat_natCast, hy]
/-- What symbol answers: the symbol, and true; or false. -/
def SymPost (G : Gram) (p : Plc) (w : World) (e : Ending) (w' : World) : Prop :=
  Below w.heap.size w w' ∧ match symOf G p with
    | none => e = .returned (.tuple #[syV ⟨0, 0, 0⟩, .bool false])
    | some s => e = .returned (.tuple #[syV s, .bool true])

set_option maxRecDepth 100000 in
set_option maxHeartbeats 8000000 in
theorem symbol_ok {w : World} {k : CK} (h : CkAt w k) (F : k.Fits) {na : Addr} {x : Nod} {A : Option Addr} {c : Nat} (hn : NodAt w na x A c) (hp : plcB k.G x.plc = true) :
    Calls Try.prog 46 #[.pointer (some ⟨k.p, 0, none⟩), .pointer (some na)] w (SymPost k.G x.plc w) := by
  obtain ⟨rn, cn, qn, X, Y, hpl, hX, hY, hq⟩ := plcB_of hp
  have hS := symOf_eq (qn := qn) hX hY
  rw [← hpl] at hS
  have hR := F.may.rules
  have hcl := F.conj8 rn X hX
  have hsl := F.may.seq rn X cn Y hX hY
  have hrn := (List.getElem?_eq_some_iff.1 hX).1
  have hcn := (List.getElem?_eq_some_iff.1 hY).1
  obtain ⟨rd, Ac, cc, eA, -, -, r1, -, -, hCC⟩ := rul_at h.rul hX
  obtain ⟨cd, As, cs, eC, -, -, s1, -, -, hSS⟩ := conj_at hCC hY
  subst eC
  have p0 := h.p0
  have g2 := h.g2
  rw [eA] at g2
  have z3 := hn.c3
  have z4 := hn.c4
  have z5 := hn.c5
  rw [hpl] at z3 z4 z5
  simp only at z3 z4 z5
  have hbl := hn.blk
  have b1 : (rn : Int) < k.G.rules.length := by omega
  have b2 : (cn : Int) < X.conj.length := by omega
  have HS := Lib.hid hS
  have HSS := Lib.hid hSS
  clear h hn hp hpl hX hY hS eA hCC hSS
  cases hs : Y.seq[qn]? with
  | none =>
    have hqe : qn = Y.seq.length := by have := List.getElem?_eq_none_iff.1 hs; omega
    have HV := Lib.hid (HS.out.trans hs)
    have d1 : ((qn : Int) == (Y.seq.length : Int)) = true := by simp [hqe]
    have d1' : (qn == Y.seq.length) = true := by simp [hqe]
    clear hs hqe
    go_enter Try.func46, Try.ntmps46
    go_wp2_with fail
    have hb0 := below_alloc' (below_refl w) (Obj.cells #[.int .i64 0, .int .i64 0, .int .i64 0] 46)
    have B0 := heap_alloc_new w (Obj.cells #[.int .i64 0, .int .i64 0, .int .i64 0] 46)
    generalize w.alloc (Obj.cells #[.int .i64 0, .int .i64 0, .int .i64 0] 46) = w0 at hb0 B0 ⊢
    have p0 := below_cell hb0 p0
    have g2 := below_cell hb0 g2
    have r1 := below_cell hb0 r1
    have s1 := below_cell hb0 s1
    have z3 := below_cell hb0 z3
    have z4 := below_cell hb0 z4
    have z5 := below_cell hb0 z5
    have hl0 := blk_lt B0
    have f0 := blk_frozen B0 0
    have f1 := blk_frozen B0 1
    have f2 := blk_frozen B0 2
    have v0 : w0.cell? ⟨w.heap.size, 0, none⟩ = some (.int .i64 0) := blk_cell B0 0
    have v1 : w0.cell? ⟨w.heap.size, 1, none⟩ = some (.int .i64 0) := blk_cell B0 1
    have v2 : w0.cell? ⟨w.heap.size, 2, none⟩ = some (.int .i64 0) := blk_cell B0 2
    have HB0 := Lib.hid hb0
    have HBB := Lib.hid B0
    clear hb0 B0
    go_quiet (fail)
    go_wp2_with fail
    have E := blk_set (blk_set (blk_set (w := w0.drewN nq) HBB.out 0 (.int .i64 0)) 1 (.int .i64 0)) 2 (.int .i64 0)
    have hbe : Below w.heap.size w ((((w0.drewN nq).setCell ⟨w.heap.size, 0, none⟩ (.int .i64 0)).setCell ⟨w.heap.size, 1, none⟩ (.int .i64 0)).setCell ⟨w.heap.size, 2, none⟩ (.int .i64 0)) :=
      below_setNew (below_setNew (below_setNew (pw_below_drewN HB0.out nq) (Nat.le_refl _) _) (Nat.le_refl _) _) (Nat.le_refl _) _
    clear v0 v1 v2 f0 f1 f2
    generalize (((w0.drewN nq).setCell ⟨w.heap.size, 0, none⟩ (.int .i64 0)).setCell ⟨w.heap.size, 1, none⟩ (.int .i64 0)).setCell ⟨w.heap.size, 2, none⟩ (.int .i64 0) = w9 at E hbe ⊢
    have c0 : w9.cell? ⟨w.heap.size, 0, none⟩ = some (.int .i64 0) := blk_cell E 0
    have c1 : w9.cell? ⟨w.heap.size, 1, none⟩ = some (.int .i64 0) := blk_cell E 1
    have c2 : w9.cell? ⟨w.heap.size, 2, none⟩ = some (.int .i64 0) := blk_cell E 2
    refine bodyPost_ret (v := .tuple #[.agg #[.int .i64 0, .int .i64 0, .int .i64 0], .bool false]) (by simp [results, Try.results46, go_sem, c0, c1, c2]) rfl ?_
    unfold SymPost
    rw [HV.out]
    exact ⟨hbe, rfl⟩
  | some s =>
    have hlt := (List.getElem?_eq_some_iff.1 hs).1
    have HV := Lib.hid (HS.out.trans hs)
    have d1 : ((qn : Int) == (Y.seq.length : Int)) = false := by simp; omega
    have d1' : (qn == Y.seq.length) = false := by simp; omega
    obtain ⟨sd, eS, -, y0, y1, y2⟩ := sym_at HSS.out hs
    subst eS
    have b3 : (qn : Int) < Y.seq.length := by omega
    clear hs
    go_enter Try.func46, Try.ntmps46
    go_wp2_with fail
    have hb0 := below_alloc' (below_refl w) (Obj.cells #[.int .i64 0, .int .i64 0, .int .i64 0] 46)
    have B0 := heap_alloc_new w (Obj.cells #[.int .i64 0, .int .i64 0, .int .i64 0] 46)
    generalize w.alloc (Obj.cells #[.int .i64 0, .int .i64 0, .int .i64 0] 46) = w0 at hb0 B0 ⊢
    have p0 := below_cell hb0 p0
    have g2 := below_cell hb0 g2
    have r1 := below_cell hb0 r1
    have s1 := below_cell hb0 s1
    have z3 := below_cell hb0 z3
    have z4 := below_cell hb0 z4
    have z5 := below_cell hb0 z5
    have hl0 := blk_lt B0
    have f0 := blk_frozen B0 0
    have f1 := blk_frozen B0 1
    have f2 := blk_frozen B0 2
    have v0 : w0.cell? ⟨w.heap.size, 0, none⟩ = some (.int .i64 0) := blk_cell B0 0
    have v1 : w0.cell? ⟨w.heap.size, 1, none⟩ = some (.int .i64 0) := blk_cell B0 1
    have v2 : w0.cell? ⟨w.heap.size, 2, none⟩ = some (.int .i64 0) := blk_cell B0 2
    have y0 := below_cell hb0 y0
    have y1 := below_cell hb0 y1
    have y2 := below_cell hb0 y2
    have HB0 := Lib.hid hb0
    have HBB := Lib.hid B0
    clear hb0 B0
    go_quiet (fail)
    go_wp2_with fail
    have E := blk_set (blk_set (blk_set (w := w0.drewN nq) HBB.out 0 (.int .i64 s.name)) 1 (.int .i64 s.lo)) 2 (.int .i64 s.hi)
    have hbe : Below w.heap.size w ((((w0.drewN nq).setCell ⟨w.heap.size, 0, none⟩ (.int .i64 s.name)).setCell ⟨w.heap.size, 1, none⟩ (.int .i64 s.lo)).setCell ⟨w.heap.size, 2, none⟩ (.int .i64 s.hi)) :=
      below_setNew (below_setNew (below_setNew (pw_below_drewN HB0.out nq) (Nat.le_refl _) _) (Nat.le_refl _) _) (Nat.le_refl _) _
    clear v0 v1 v2 f0 f1 f2
    generalize (((w0.drewN nq).setCell ⟨w.heap.size, 0, none⟩ (.int .i64 s.name)).setCell ⟨w.heap.size, 1, none⟩ (.int .i64 s.lo)).setCell ⟨w.heap.size, 2, none⟩ (.int .i64 s.hi) = w9 at E hbe ⊢
    have c0 : w9.cell? ⟨w.heap.size, 0, none⟩ = some (.int .i64 s.name) := blk_cell E 0
    have c1 : w9.cell? ⟨w.heap.size, 1, none⟩ = some (.int .i64 s.lo) := blk_cell E 1
    have c2 : w9.cell? ⟨w.heap.size, 2, none⟩ = some (.int .i64 s.hi) := blk_cell E 2
    refine bodyPost_ret (v := .tuple #[.agg #[.int .i64 s.name, .int .i64 s.lo, .int .i64 s.hi], .bool true]) (by simp [results, Try.results46, go_sem, c0, c1, c2]) rfl ?_
    unfold SymPost
    rw [HV.out]
    exact ⟨hbe, rfl⟩

set_option maxRecDepth 100000 in
set_option maxHeartbeats 8000000 in
theorem read_ok {w : World} {k : CK} (h : CkAt w k) (F : k.Fits) {na : Addr} {x : Nod} {A : Option Addr} {c : Nat} (hn : NodAt w na x A c) (hi : 0 ≤ x.i) (hj : x.j ≤ k.W.size) (s : Sym) :
    Calls Try.prog 47 #[.pointer (some ⟨k.p, 0, none⟩), .pointer (some na), syV s] w fun e w' => e = .returned (.bool (readB k.W x s)) ∧ Below w.heap.size w w' := by
  have hW := F.W32
  have p1 := h.p1
  have z6 := hn.c6
  have z7 := hn.c7
  have hbl := hn.blk
  have hpl := World.block_lt_of_cell? w _ p1
  have hbt := btz_at k.W x.i
  have hbr := btz_range k.W x.i
  clear h hn
  unfold syV
  by_cases h1 : x.i < x.j
  · have d1 : decide (x.i < x.j) = true := by simpa using h1
    have b1 : x.i < k.W.size := by omega
    have b2 : x.i.toNat < k.W.size := by omega
    have hbt' := hbt b2
    have HV := Lib.hid (show readB k.W x s = (decide (s.lo ≤ btz k.W x.i) && decide (btz k.W x.i ≤ s.hi)) by unfold readB; rw [d1]; rfl)
    clear h1 hbt
    by_cases h2 : s.lo ≤ btz k.W x.i
    · have d2 : decide (s.lo ≤ btz k.W x.i) = true := by simpa using h2
      have HZ := Lib.hid (show readB k.W x s = decide (btz k.W x.i ≤ s.hi) by rw [HV.out, d2]; rfl)
      clear h2
      go_enter Try.func47, Try.ntmps47
      go_wp2_with fail
      go_quiet (fail)
      go_wp2_with fail
      go_ret
      exact ⟨by rw [HZ.out]; rfl, by repeat (first | exact below_refl _ | apply below_alloc' | apply below_drewN' | apply below_drew')⟩
    · have d2 : decide (s.lo ≤ btz k.W x.i) = false := by simpa using h2
      have HZ := Lib.hid (show readB k.W x s = false by rw [HV.out, d2]; rfl)
      clear h2
      go_enter Try.func47, Try.ntmps47
      go_wp2_with fail
      go_quiet (fail)
      go_wp2_with fail
      go_ret
      exact ⟨by rw [HZ.out]; rfl, by repeat (first | exact below_refl _ | apply below_alloc' | apply below_drewN' | apply below_drew')⟩
  · have d1 : decide (x.i < x.j) = false := by simpa using h1
    have HZ := Lib.hid (show readB k.W x s = false by unfold readB; rw [d1]; rfl)
    clear h1 hbt
    go_enter Try.func47, Try.ntmps47
    go_wp2_with fail
    go_quiet (fail)
    go_wp2_with fail
    go_ret
    exact ⟨by rw [HZ.out]; rfl, by repeat (first | exact below_refl _ | apply below_alloc' | apply below_drewN' | apply below_drew')⟩
end Go.Proofs.Ytfmfoiecphhhiaa
