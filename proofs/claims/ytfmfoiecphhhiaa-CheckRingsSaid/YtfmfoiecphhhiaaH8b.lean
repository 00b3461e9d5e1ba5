/-
  H7: the checker's symbol, read, on, split.
  H8: the checker's on, split.
  H8b: the checker's split..
-/
import Derived.Test.YtfmfoiecphhhiaaH6
set_option linter.unusedSimpArgs false
set_option linter.unusedVariables false
namespace Go.Proofs.Ytfmfoiecphhhiaa
open Go.RowKit

def syV (s : Sym) : Value := .agg #[.int .i64 s.name, .int .i64 s.lo, .int .i64 s.hi]
theorem plcB_of {G : Gram} {p : Plc} (h : plcB G p = true) : ∃ (rn cn qn : Nat) (x : Rul) (y : Conj), p = ⟨(rn : Int), (cn : Int), (qn : Int)⟩ ∧ G.rules[rn]? = some x ∧ x.conj[cn]? = some y ∧ qn ≤ y.seq.length := by
  obtain ⟨rn, cn, qn, x, y, h1, h2, h3, hx, hy, hq⟩ := place_of h
  exact ⟨rn, cn, qn, x, y, by cases p; simp_all, hx, hy, hq⟩
theorem symOf_eq {G : Gram} {rn cn qn : Nat} {x : Rul} {y : Conj} (hx : G.rules[rn]? = some x) (hy : x.conj[cn]? = some y) : symOf G ⟨(rn : Int), (cn : Int), (qn : Int)⟩ = y.seq[qn]? := by
  unfold symOf cjAt
  simp only
  rw [if_neg (by omega), Int.toNat_natCast, hx]
  simp only [Int.toNat_natCast, hy]
/-- What symbol answers: the symbol, and true; or false. -/
def SymPost (G : Gram) (p : Plc) (w : World) (e : Ending) (w' : World) : Prop :=
  Below w.heap.size w w' ∧ match symOf G p with
    | none => e = .returned (.tuple #[syV ⟨0, 0, 0⟩, .bool false])
    | some s => e = .returned (.tuple #[syV s, .bool true])

set_option maxRecDepth 100000 in
set_option maxHeartbeats 8000000 in
theorem symbol_ok {w : World} {k : CK} (h : CkAt w k) (F : k.Fits) {na : Addr} {x : Nod} {A : Option Addr} {c : Nat} (hn : NodAt w na x A c) (hp : plcB k.G x.plc = true) :
    Calls Try.prog 46 #[.pointer (some ⟨k.p, 0, none⟩), .pointer (some na)] w (SymPost k.G x.plc w) := by
  obtain ⟨rn, cn, qn, X, Y, hpl, hX, hY, hq⟩ := plcB_of hp
  have hS := symOf_eq (qn := qn) hX hY
  rw [← hpl] at hS
  have hR := F.may.rules
  have hcl := F.conj8 rn X hX
  have hsl := F.may.seq rn X cn Y hX hY
  have hrn := (List.getElem?_eq_some_iff.1 hX).1
  have hcn := (List.getElem?_eq_some_iff.1 hY).1
  obtain ⟨rd, Ac, cc, eA, -, -, r1, -, -, hCC⟩ := rul_at h.rul hX
  obtain ⟨cd, As, cs, eC, -, -, s1, -, -, hSS⟩ := conj_at hCC hY
  subst eC
  have p0 := h.p0
  have g2 := h.g2
  rw [eA] at g2
  have z3 := hn.c3
  have z4 := hn.c4
  have z5 := hn.c5
  rw [hpl] at z3 z4 z5
  simp only at z3 z4 z5
  have hbl := hn.blk
  have b1 : (rn : Int) < k.G.rules.length := by omega
  have b2 : (cn : Int) < X.conj.length := by omega
  have HS := Lib.hid hS
  have HSS := Lib.hid hSS
  clear h hn hp hpl hX hY hS eA hCC hSS
  cases hs : Y.seq[qn]? with
  | none =>
    have hqe : qn = Y.seq.length := by have := List.getElem?_eq_none_iff.1 hs; omega
    have HV := Lib.hid (HS.out.trans hs)
    have d1 : ((qn : Int) == (Y.seq.length : Int)) = true := by simp [hqe]
    have d1' : (qn == Y.seq.length) = true := by simp [hqe]
    clear hs hqe
    go_enter Try.func46, Try.ntmps46
    go_wp2_with fail
    have hb0 := below_alloc' (below_refl w) (Obj.cells #[.int .i64 0, .int .i64 0, .int .i64 0] 46)
    have B0 := heap_alloc_new w (Obj.cells #[.int .i64 0, .int .i64 0, .int .i64 0] 46)
    generalize w.alloc (Obj.cells #[.int .i64 0, .int .i64 0, .int .i64 0] 46) = w0 at hb0 B0 ⊢
    have p0 := below_cell hb0 p0
    have g2 := below_cell hb0 g2
    have r1 := below_cell hb0 r1
    have s1 := below_cell hb0 s1
    have z3 := below_cell hb0 z3
    have z4 := below_cell hb0 z4
    have z5 := below_cell hb0 z5
    have hl0 := blk_lt B0
    have f0 := blk_frozen B0 0
    have f1 := blk_frozen B0 1
    have f2 := blk_frozen B0 2
    have v0 : w0.cell? ⟨w.heap.size, 0, none⟩ = some (.int .i64 0) := blk_cell B0 0
    have v1 : w0.cell? ⟨w.heap.size, 1, none⟩ = some (.int .i64 0) := blk_cell B0 1
    have v2 : w0.cell? ⟨w.heap.size, 2, none⟩ = some (.int .i64 0) := blk_cell B0 2
    have HB0 := Lib.hid hb0
    have HBB := Lib.hid B0
    clear hb0 B0
    go_quiet (fail)
    go_wp2_with fail
    have E := blk_set (blk_set (blk_set (w := w0.drewN nq) HBB.out 0 (.int .i64 0)) 1 (.int .i64 0)) 2 (.int .i64 0)
    have hbe : Below w.heap.size w ((((w0.drewN nq).setCell ⟨w.heap.size, 0, none⟩ (.int .i64 0)).setCell ⟨w.heap.size, 1, none⟩ (.int .i64 0)).setCell ⟨w.heap.size, 2, none⟩ (.int .i64 0)) :=
      below_setNew (below_setNew (below_setNew (pw_below_drewN HB0.out nq) (Nat.le_refl _) _) (Nat.le_refl _) _) (Nat.le_refl _) _
    clear v0 v1 v2 f0 f1 f2
    generalize (((w0.drewN nq).setCell ⟨w.heap.size, 0, none⟩ (.int .i64 0)).setCell ⟨w.heap.size, 1, none⟩ (.int .i64 0)).setCell ⟨w.heap.size, 2, none⟩ (.int .i64 0) = w9 at E hbe ⊢
    have c0 : w9.cell? ⟨w.heap.size, 0, none⟩ = some (.int .i64 0) := blk_cell E 0
    have c1 : w9.cell? ⟨w.heap.size, 1, none⟩ = some (.int .i64 0) := blk_cell E 1
    have c2 : w9.cell? ⟨w.heap.size, 2, none⟩ = some (.int .i64 0) := blk_cell E 2
    refine bodyPost_ret (v := .tuple #[.agg #[.int .i64 0, .int .i64 0, .int .i64 0], .bool false]) (by simp [results, Try.results46, go_sem, c0, c1, c2]) rfl ?_
    unfold SymPost
    rw [HV.out]
    exact ⟨hbe, rfl⟩
  | some s =>
    have hlt := (List.getElem?_eq_some_iff.1 hs).1
    have HV := Lib.hid (HS.out.trans hs)
    have d1 : ((qn : Int) == (Y.seq.length : Int)) = false := by simp; omega
    have d1' : (qn == Y.seq.length) = false := by simp; omega
    obtain ⟨sd, eS, -, y0, y1, y2⟩ := sym_at HSS.out hs
    subst eS
    have b3 : (qn : Int) < Y.seq.length := by omega
    clear hs
    go_enter Try.func46, Try.ntmps46
    go_wp2_with fail
    have hb0 := below_alloc' (below_refl w) (Obj.cells #[.int .i64 0, .int .i64 0, .int .i64 0] 46)
    have B0 := heap_alloc_new w (Obj.cells #[.int .i64 0, .int .i64 0, .int .i64 0] 46)
    generalize w.alloc (Obj.cells #[.int .i64 0, .int .i64 0, .int .i64 0] 46) = w0 at hb0 B0 ⊢
    have p0 := below_cell hb0 p0
    have g2 := below_cell hb0 g2
    have r1 := below_cell hb0 r1
    have s1 := below_cell hb0 s1
    have z3 := below_cell hb0 z3
    have z4 := below_cell hb0 z4
    have z5 := below_cell hb0 z5
    have hl0 := blk_lt B0
    have f0 := blk_frozen B0 0
    have f1 := blk_frozen B0 1
    have f2 := blk_frozen B0 2
    have v0 : w0.cell? ⟨w.heap.size, 0, none⟩ = some (.int .i64 0) := blk_cell B0 0
    have v1 : w0.cell? ⟨w.heap.size, 1, none⟩ = some (.int .i64 0) := blk_cell B0 1
    have v2 : w0.cell? ⟨w.heap.size, 2, none⟩ = some (.int .i64 0) := blk_cell B0 2
    have y0 := below_cell hb0 y0
    have y1 := below_cell hb0 y1
    have y2 := below_cell hb0 y2
    have HB0 := Lib.hid hb0
    have HBB := Lib.hid B0
    clear hb0 B0
    go_quiet (fail)
    go_wp2_with fail
    have E := blk_set (blk_set (blk_set (w := w0.drewN nq) HBB.out 0 (.int .i64 s.name)) 1 (.int .i64 s.lo)) 2 (.int .i64 s.hi)
    have hbe : Below w.heap.size w ((((w0.drewN nq).setCell ⟨w.heap.size, 0, none⟩ (.int .i64 s.name)).setCell ⟨w.heap.size, 1, none⟩ (.int .i64 s.lo)).setCell ⟨w.heap.size, 2, none⟩ (.int .i64 s.hi)) :=
      below_setNew (below_setNew (below_setNew (pw_below_drewN HB0.out nq) (Nat.le_refl _) _) (Nat.le_refl _) _) (Nat.le_refl _) _
    clear v0 v1 v2 f0 f1 f2
    generalize (((w0.drewN nq).setCell ⟨w.heap.size, 0, none⟩ (.int .i64 s.name)).setCell ⟨w.heap.size, 1, none⟩ (.int .i64 s.lo)).setCell ⟨w.heap.size, 2, none⟩ (.int .i64 s.hi) = w9 at E hbe ⊢
    have c0 : w9.cell? ⟨w.heap.size, 0, none⟩ = some (.int .i64 s.name) := blk_cell E 0
    have c1 : w9.cell? ⟨w.heap.size, 1, none⟩ = some (.int .i64 s.lo) := blk_cell E 1
    have c2 : w9.cell? ⟨w.heap.size, 2, none⟩ = some (.int .i64 s.hi) := blk_cell E 2
    refine bodyPost_ret (v := .tuple #[.agg #[.int .i64 s.name, .int .i64 s.lo, .int .i64 s.hi], .bool true]) (by simp [results, Try.results46, go_sem, c0, c1, c2]) rfl ?_
    unfold SymPost
    rw [HV.out]
    exact ⟨hbe, rfl⟩

set_option maxRecDepth 100000 in
set_option maxHeartbeats 8000000 in
theorem read_ok {w : World} {k : CK} (h : CkAt w k) (F : k.Fits) {na : Addr} {x : Nod} {A : Option Addr} {c : Nat} (hn : NodAt w na x A c) (hi : 0 ≤ x.i) (hj : x.j ≤ k.W.size) (s : Sym) :
    Calls Try.prog 47 #[.pointer (some ⟨k.p, 0, none⟩), .pointer (some na), syV s] w fun e w' => e = .returned (.bool (readB k.W x s)) ∧ Below w.heap.size w w' := by
  have hW := F.W32
  have p1 := h.p1
  have z6 := hn.c6
  have z7 := hn.c7
  have hbl := hn.blk
  have hpl := World.block_lt_of_cell? w _ p1
  have hbt := btz_at k.W x.i
  have hbr := btz_range k.W x.i
  clear h hn
  unfold syV
  by_cases h1 : x.i < x.j
  · have d1 : decide (x.i < x.j) = true := by simpa using h1
    have b1 : x.i < k.W.size := by omega
    have b2 : x.i.toNat < k.W.size := by omega
    have hbt' := hbt b2
    have HV := Lib.hid (show readB k.W x s = (decide (s.lo ≤ btz k.W x.i) && decide (btz k.W x.i ≤ s.hi)) by unfold readB; rw [d1]; rfl)
    clear h1 hbt
    by_cases h2 : s.lo ≤ btz k.W x.i
    · have d2 : decide (s.lo ≤ btz k.W x.i) = true := by simpa using h2
      have HZ := Lib.hid (show readB k.W x s = decide (btz k.W x.i ≤ s.hi) by rw [HV.out, d2]; rfl)
      clear h2
      go_enter Try.func47, Try.ntmps47
      go_wp2_with fail
      go_quiet (fail)
      go_wp2_with fail
      go_ret
      exact ⟨by rw [HZ.out]; rfl, by repeat (first | exact below_refl _ | apply below_alloc' | apply below_drewN' | apply below_drew')⟩
    · have d2 : decide (s.lo ≤ btz k.W x.i) = false := by simpa using h2
      have HZ := Lib.hid (show readB k.W x s = false by rw [HV.out, d2]; rfl)
      clear h2
      go_enter Try.func47, Try.ntmps47
      go_wp2_with fail
      go_quiet (fail)
      go_wp2_with fail
      go_ret
      exact ⟨by rw [HZ.out]; rfl, by repeat (first | exact below_refl _ | apply below_alloc' | apply below_drewN' | apply below_drew')⟩
  · have d1 : decide (x.i < x.j) = false := by simpa using h1
    have HZ := Lib.hid (show readB k.W x s = false by unfold readB; rw [d1]; rfl)
    clear h1 hbt
    go_enter Try.func47, Try.ntmps47
    go_wp2_with fail
    go_quiet (fail)
    go_wp2_with fail
    go_ret
    exact ⟨by rw [HZ.out]; rfl, by repeat (first | exact below_refl _ | apply below_alloc' | apply below_drewN' | apply below_drew')⟩
end Go.Proofs.Ytfmfoiecphhhiaa

set_option linter.unusedSimpArgs false
set_option linter.unusedVariables false
namespace Go.Proofs.Ytfmfoiecphhhiaa
open Go.RowKit

theorem add_zero (a : Addr) : a.add 0 = a := by unfold Addr.add; simp
theorem one_of {α : Type} {l : List α} (h : l.length = 1) : ∃ a, l = [a] := by
  match l, h with
  | [a], _ => exact ⟨a, rfl⟩
theorem two_of {α : Type} {l : List α} (h : l.length = 2) : ∃ a b, l = [a, b] := by
  match l, h with
  | [a, b], _ => exact ⟨a, b, rfl⟩
/-- What shape says, where it says yes. -/
structure Shaped (G : Gram) (W : ByteArray) (x : Nod) : Prop where
  i0 : 0 ≤ x.i
  ij : x.i ≤ x.j
  j1 : x.j ≤ W.size
  plc : x.kind ≠ 0 → plcB G x.plc = true
theorem shaped_of {G : Gram} {W : ByteArray} {x : Nod} (h : shapeB G W x = true) : Shaped G W x := by
  unfold shapeB at h
  simp only [Bool.and_eq_true, decide_eq_true_eq] at h
  refine ⟨h.1.1.1, h.1.1.2, h.1.2, fun hk => ?_⟩
  have h2 := h.2
  rw [if_neg hk] at h2
  simp only [Bool.and_eq_true] at h2
  exact h2.2
theorem plcB_pos {k : CK} (F : k.Fits) {p : Plc} (h : plcB k.G p = true) : 0 ≤ p.pos ∧ p.pos ≤ 1000 := by
  obtain ⟨rn, cn, qn, X, Y, rfl, hX, hY, hq⟩ := plcB_of h
  have := F.may.seq rn X cn Y hX hY
  simp only
  omega

set_option maxRecDepth 100000 in
set_option maxHeartbeats 8000000 in
theorem on_ok {w : World} {k : CK} (h : CkAt w k) (F : k.Fits) {na : Addr} {x : Nod} {A : Option Addr} {c : Nat} (hn : NodAt w na x A c) (hS : Shaped k.G k.W x) (hij : x.i < x.j) (hpl : plcB k.G x.plc = true) (sign : Bool) :
    Calls Try.prog 48 #[.pointer (some ⟨k.p, 0, none⟩), .pointer (some na), .bool sign] w fun e w' => e = .returned (.bool (onB k.C x sign)) ∧ Below w.heap.size w w' := by
  have hW := F.W32
  have i0 := hS.i0
  have j1 := hS.j1
  have hpos := plcB_pos F hpl
  have z9 := hn.c9
  have H := Lib.hid h
  have HN := Lib.hid hn
  clear hS hpl
  by_cases hl : x.picks.length = 1
  · obtain ⟨p, hp⟩ := one_of hl
    rw [hl] at z9
    obtain ⟨pd, A1, c1, eA, hPk⟩ := pck_at hn.pk (i := 0) (x := p) (by rw [hp]; rfl)
    rw [Nat.zero_mul, add_zero] at hPk
    subst eA
    have y2 := hPk.c2
    by_cases hk : p.kids.length = 1
    · obtain ⟨kd, hkd⟩ := one_of hk
      rw [hk] at y2
      obtain ⟨ad, eK, v0⟩ := Rd.C.one hPk.kd (i := 0) (x := kd) (by rw [hkd]; rfl)
      rw [add_zero] at v0
      rw [eK] at y2
      have HO := Lib.hid (show onB k.C x sign = (decide (p.sp = x.i + 1) && decide (p.cj = 0) && isB k.C kd sign (seqKey (behind x) (x.i + 1) x.j)) by unfold onB; rw [hp]; simp only [hkd])
      have y0 := hPk.c0
      have y1 := hPk.c1
      have z6 := hn.c6
      have z7 := hn.c7
      have ew : IntKind.i64.wrap (x.i + 1) = x.i + 1 := IntWalk.i64_in _ (by omega)
      have hpb := hPk.blk
      have hnb := hn.blk
      clear h hn hl hp hk hkd eK hPk
      by_cases h1 : p.sp = x.i + 1
      · have d1 : (p.sp == x.i + 1) = true := by simp [h1]
        by_cases h2 : p.cj = 0
        · rw [h2] at y1
          have HZ := Lib.hid (show onB k.C x sign = isB k.C kd sign (seqKey (behind x) (x.i + 1) x.j) by rw [HO.out, decide_eq_true h1, decide_eq_true h2]; rfl)
          obtain ⟨bl, hbl⟩ : ∃ bl, bl = isB k.C kd sign (seqKey (behind x) (x.i + 1) x.j) := ⟨_, rfl⟩
          have HI := Lib.hid (show ∀ w5, Below w.heap.size w w5 → Calls Try.prog 15 #[.pointer (some ⟨k.p, 0, none⟩), .int .i64 kd, .bool sign, kyV (seqKey (behind x) (x.i + 1) x.j)] w5 fun e w' => e = .returned (.bool bl) ∧ Below w5.heap.size w5 w' from fun w5 hC => by
            rw [hbl]; exact is_kid (H.out.mono hC) F kd sign _)
          have HBL := Lib.hid hbl
          have hz2 := Lib.hid h2
          have hz1 := Lib.hid h1
          clear h1 h2 HO hbl
          go_enter Try.func48, Try.ntmps48
          go_wp2_with fail
          have Y0 := Lib.hid y0
          have Y1 := Lib.hid y1
          have Y2 := Lib.hid y2
          have Z6 := Lib.hid z6
          have Z7 := Lib.hid z7
          have Z9 := Lib.hid z9
          have V0 := Lib.hid v0
          clear y0 y1 y2 z6 z7 z9 v0
          refine wp_region_below (by kernel_rfl) (by kernel_rfl) ?_
          repeat (first
            | (refine qv_skip (by rfl) ?_; simp only [Act.put, List.setIfInBounds_toArray, List.set_cons_zero, List.set_cons_succ])
            | (refine qv_val' (by rfl) ?_; apply Exists.intro; refine ⟨fun w5 hC => ?_, ?_⟩; (have qqr0 := below_cell hC Y0.out; have qqr1 := below_cell hC Y1.out; have qqr2 := below_cell hC Y2.out; have qqr3 := below_cell hC Z6.out; have qqr4 := below_cell hC Z7.out; have qqr5 := below_cell hC V0.out; go_simp; rfl); simp only [Act.put, List.setIfInBounds_toArray, List.set_cons_zero, List.set_cons_succ])
            | (refine qv_call' (by rfl) ?_; apply Exists.intro; apply Exists.intro; apply Exists.intro; refine ⟨fun w5 hC => ?_, fun w5 hC => ?_, ?_⟩; (go_simp; first | rfl | exact ⟨rfl, rfl⟩); (first | (go_at_call 60; exact calls_in hC (behind_any (HN.out.mono hC) hpos.1 hpos.2)) | (go_at_call 58; exact calls_in hC (rest_key (behind x) (x.i + 1) x.j w5)) | (go_at_call 15; exact calls_in hC (HI.out w5 hC))); simp only [Act.put, List.setIfInBounds_toArray, List.set_cons_zero, List.set_cons_succ]))
          refine qv_nil ?_
          intro w5 hC
          have HB5 := Lib.hid hC
          clear hC
          go_wp2_with fail
          go_ret
          exact ⟨by rw [HZ.out, ← HBL.out]; rfl, HB5.out⟩
        · have d2 : (p.cj == 0) = false := by simpa using h2
          have HZ := Lib.hid (show onB k.C x sign = false by rw [HO.out, decide_eq_false h2]; simp)
          clear h1 h2 HO
          go_enter Try.func48, Try.ntmps48
          go_wp2_with fail
          go_quiet (fail)
          go_wp2_with fail
          go_ret
          exact ⟨by rw [HZ.out]; rfl, pw_below_drewN (below_refl _) _⟩
      · have d1 : (p.sp == x.i + 1) = false := by simpa using h1
        have HZ := Lib.hid (show onB k.C x sign = false by rw [HO.out, decide_eq_false h1]; rfl)
        clear h1 HO
        go_enter Try.func48, Try.ntmps48
        go_wp2_with fail
        go_quiet (fail)
        go_wp2_with fail
        go_ret
        exact ⟨by rw [HZ.out]; rfl, pw_below_drewN (below_refl _) _⟩
    · have d2 : ((p.kids.length : Int) != 1) = true := by simp; omega
      have d2' : (p.kids.length != 1) = true := by simpa using hk
      have HZ := Lib.hid (show onB k.C x sign = false by
        unfold onB; rw [hp]
        simp only
        split
        · rename_i h; rw [h] at hk; simp at hk
        · rfl)
      clear hl hp hk h hn hPk
      go_enter Try.func48, Try.ntmps48
      go_wp2_with fail
      go_ret
      exact ⟨by rw [HZ.out]; rfl, below_refl _⟩
  · have d1 : ((x.picks.length : Int) != 1) = true := by simp; omega
    have d1' : (x.picks.length != 1) = true := by simpa using hl
    have HZ := Lib.hid (show onB k.C x sign = false by
      unfold onB
      split
      · rename_i p h; rw [h] at hl; simp at hl
      · rfl)
    clear hl h hn
    go_enter Try.func48, Try.ntmps48
    go_wp2_with fail
    go_ret
    exact ⟨by rw [HZ.out]; rfl, below_refl _⟩

end Go.Proofs.Ytfmfoiecphhhiaa

set_option linter.unusedSimpArgs false
set_option linter.unusedVariables false
namespace Go.Proofs.Ytfmfoiecphhhiaa
open Go.RowKit

set_option maxRecDepth 100000 in
set_option maxHeartbeats 8000000 in
theorem split_ok {w : World} {k : CK} (h : CkAt w k) (F : k.Fits) {na : Addr} {x : Nod} {A : Option Addr} {c : Nat} (hn : NodAt w na x A c) (hpl : plcB k.G x.plc = true) {pa : Addr} {p : Pck} {Ap : Option Addr} {cp : Nat} (hp : PckAt w pa p Ap cp) (name : Int) :
    Calls Try.prog 49 #[.pointer (some ⟨k.p, 0, none⟩), .pointer (some na), .pointer (some pa), .int .i64 name] w fun e w' => e = .returned (.bool (splitOK k.C x name p)) ∧ Below w.heap.size w w' := by
  have hpos := plcB_pos F hpl
  have y0 := hp.c0
  have y2 := hp.c2
  have z6 := hn.c6
  have z7 := hn.c7
  have hpb := hp.blk
  have hnb := hn.blk
  have H := Lib.hid h
  have HN := Lib.hid hn
  have HP := Lib.hid hp
  clear h hn hpl hp
  have Y0 := Lib.hid y0
  have Z6 := Lib.hid z6
  have Z7 := Lib.hid z7
  clear y0 z6 z7
  by_cases h1 : x.i ≤ p.sp
  · have d1 : decide (x.i ≤ p.sp) = true := by simpa using h1
    by_cases h2 : p.sp ≤ x.j
    · have d2 : decide (p.sp ≤ x.j) = true := by simpa using h2
      by_cases hk : p.kids.length = 2
      · obtain ⟨ka, kb, hkd⟩ := two_of hk
        rw [hk] at y2
        obtain ⟨ad, eK, v0⟩ := Rd.C.one HP.out.kd (i := 0) (x := ka) (by rw [hkd]; rfl)
        obtain ⟨ad', eK', v1⟩ := Rd.C.one HP.out.kd (i := 1) (x := kb) (by rw [hkd]; rfl)
        rw [eK] at eK'
        obtain rfl : ad = ad' := by injection eK'
        rw [add_zero] at v0
        rw [show ad.add 1 = ⟨ad.block, ad.off + 1, none⟩ by unfold Addr.add; simp] at v1
        rw [eK] at y2
        have HO := Lib.hid (show splitOK k.C x name p = (isB k.C ka true (nameKey name x.i p.sp) && isB k.C kb true (seqKey (behind x) p.sp x.j)) by unfold splitOK; rw [d1, d2, hkd]; rfl)
        obtain ⟨ba, hba⟩ : ∃ bl, bl = isB k.C ka true (nameKey name x.i p.sp) := ⟨_, rfl⟩
        obtain ⟨bb, hbb⟩ : ∃ bl, bl = isB k.C kb true (seqKey (behind x) p.sp x.j) := ⟨_, rfl⟩
        have HA := Lib.hid (show ∀ w5, Below w.heap.size w w5 → Calls Try.prog 15 #[.pointer (some ⟨k.p, 0, none⟩), .int .i64 ka, .bool true, kyV (nameKey name x.i p.sp)] w5 fun e w' => e = .returned (.bool ba) ∧ Below w5.heap.size w5 w' from fun w5 hC => by
          rw [hba]; exact is_kid (H.out.mono hC) F ka true _)
        have HB := Lib.hid (show ∀ w5, Below w.heap.size w w5 → Calls Try.prog 15 #[.pointer (some ⟨k.p, 0, none⟩), .int .i64 kb, .bool true, kyV (seqKey (behind x) p.sp x.j)] w5 fun e w' => e = .returned (.bool bb) ∧ Below w5.heap.size w5 w' from fun w5 hC => by
          rw [hbb]; exact is_kid (H.out.mono hC) F kb true _)
        have HV := Lib.hid (show splitOK k.C x name p = (ba && bb) by rw [HO.out, hba, hbb])
        have Y2 := Lib.hid y2
        have V0 := Lib.hid v0
        have V1 := Lib.hid v1
        clear h1 h2 hk hkd hba hbb HO eK eK' y2 v0 v1
        cases ba with
        | false =>
          go_enter Try.func49, Try.ntmps49
          go_wp2_with fail
          refine wp_region_below (by kernel_rfl) (by kernel_rfl) ?_
          repeat (first
            | (refine qv_skip (by rfl) ?_; simp only [Act.put, List.setIfInBounds_toArray, List.set_cons_zero, List.set_cons_succ])
            | (refine qv_val' (by rfl) ?_; apply Exists.intro; refine ⟨fun w5 hC => ?_, ?_⟩; (have qqr0 := below_cell hC Y0.out; have qqr1 := below_cell hC Y2.out; have qqr2 := below_cell hC Z6.out; have qqr3 := below_cell hC Z7.out; have qqr4 := below_cell hC V0.out; have qqr5 := below_cell hC V1.out; go_simp; rfl); simp only [Act.put, List.setIfInBounds_toArray, List.set_cons_zero, List.set_cons_succ])
            | (refine qv_call' (by rfl) ?_; apply Exists.intro; apply Exists.intro; apply Exists.intro; refine ⟨fun w5 hC => ?_, fun w5 hC => ?_, ?_⟩; (go_simp; first | rfl | exact ⟨rfl, rfl⟩); (first | (go_at_call 16; exact calls_in hC (named_key name x.i p.sp w5)) | (go_at_call 15; with_reducible exact calls_in hC (HA.out w5 hC))); simp only [Act.put, List.setIfInBounds_toArray, List.set_cons_zero, List.set_cons_succ]))
          refine qv_nil ?_
          intro w5 hC
          have HB5 := Lib.hid hC
          clear hC
          go_wp2_with fail
          go_ret
          exact ⟨by rw [HV.out]; rfl, HB5.out⟩
        | true =>
          go_enter Try.func49, Try.ntmps49
          go_wp2_with fail
          refine wp_region_below (by kernel_rfl) (by kernel_rfl) ?_
          repeat (first
            | (refine qv_skip (by rfl) ?_; simp only [Act.put, List.setIfInBounds_toArray, List.set_cons_zero, List.set_cons_succ])
            | (refine qv_val' (by rfl) ?_; apply Exists.intro; refine ⟨fun w5 hC => ?_, ?_⟩; (have qqr0 := below_cell hC Y0.out; have qqr1 := below_cell hC Y2.out; have qqr2 := below_cell hC Z6.out; have qqr3 := below_cell hC Z7.out; have qqr4 := below_cell hC V0.out; have qqr5 := below_cell hC V1.out; go_simp; rfl); simp only [Act.put, List.setIfInBounds_toArray, List.set_cons_zero, List.set_cons_succ])
            | (refine qv_call' (by rfl) ?_; apply Exists.intro; apply Exists.intro; apply Exists.intro; refine ⟨fun w5 hC => ?_, fun w5 hC => ?_, ?_⟩; (go_simp; first | rfl | exact ⟨rfl, rfl⟩); (first | (go_at_call 16; exact calls_in hC (named_key name x.i p.sp w5)) | (go_at_call 60; exact calls_in hC (behind_any (HN.out.mono hC) hpos.1 hpos.2)) | (go_at_call 58; exact calls_in hC (rest_key (behind x) p.sp x.j w5)) | (go_at_call 15; with_reducible exact calls_in hC (HA.out w5 hC)) | (go_at_call 15; with_reducible exact calls_in hC (HB.out w5 hC))); simp only [Act.put, List.setIfInBounds_toArray, List.set_cons_zero, List.set_cons_succ]))
          refine qv_nil ?_
          intro w5 hC
          have HB5 := Lib.hid hC
          clear hC
          go_wp2_with fail
          go_ret
          exact ⟨by rw [HV.out]; rfl, HB5.out⟩
      · have d3 : ((p.kids.length : Int) == 2) = false := by simp; omega
        have d3' : (p.kids.length == 2) = false := by simpa using hk
        have HZ := Lib.hid (show splitOK k.C x name p = false by
          unfold splitOK
          rw [d1, d2]
          simp only [Bool.true_and]
          split
          · rename_i a b h; rw [h] at hk; simp at hk
          · rfl)
        clear h1 h2 hk
        have Y2 := Lib.hid y2
        clear y2
        go_enter Try.func49, Try.ntmps49
        go_wp2_with fail
        refine wp_region_below (by kernel_rfl) (by kernel_rfl) ?_
        repeat (first
          | (refine qv_skip (by rfl) ?_; simp only [Act.put, List.setIfInBounds_toArray, List.set_cons_zero, List.set_cons_succ])
          | (refine qv_val' (by rfl) ?_; apply Exists.intro; refine ⟨fun w5 hC => ?_, ?_⟩; (have qqr0 := below_cell hC Y0.out; have qqr1 := below_cell hC Y2.out; have qqr2 := below_cell hC Z6.out; have qqr3 := below_cell hC Z7.out; go_simp; rfl); simp only [Act.put, List.setIfInBounds_toArray, List.set_cons_zero, List.set_cons_succ]))
        refine qv_nil ?_
        intro w5 hC
        have HB5 := Lib.hid hC
        clear hC
        go_wp2_with fail
        go_ret
        exact ⟨by rw [HZ.out]; rfl, HB5.out⟩
    · have d2 : decide (p.sp ≤ x.j) = false := by simpa using h2
      have HZ := Lib.hid (show splitOK k.C x name p = false by unfold splitOK; rw [d2]; simp)
      clear h1 h2
      have Y2 := Lib.hid y2
      clear y2
      go_enter Try.func49, Try.ntmps49
      go_wp2_with fail
      refine wp_region_below (by kernel_rfl) (by kernel_rfl) ?_
      repeat (first
        | (refine qv_skip (by rfl) ?_; simp only [Act.put, List.setIfInBounds_toArray, List.set_cons_zero, List.set_cons_succ])
        | (refine qv_val' (by rfl) ?_; apply Exists.intro; refine ⟨fun w5 hC => ?_, ?_⟩; (have qqr0 := below_cell hC Y0.out; have qqr1 := below_cell hC Y2.out; have qqr2 := below_cell hC Z6.out; have qqr3 := below_cell hC Z7.out; go_simp; rfl); simp only [Act.put, List.setIfInBounds_toArray, List.set_cons_zero, List.set_cons_succ]))
      refine qv_nil ?_
      intro w5 hC
      have HB5 := Lib.hid hC
      clear hC
      go_wp2_with fail
      go_ret
      exact ⟨by rw [HZ.out]; rfl, HB5.out⟩
  · have d1 : decide (x.i ≤ p.sp) = false := by simpa using h1
    have HZ := Lib.hid (show splitOK k.C x name p = false by unfold splitOK; rw [d1]; rfl)
    clear h1
    have Y2 := Lib.hid y2
    clear y2
    go_enter Try.func49, Try.ntmps49
    go_wp2_with fail
    refine wp_region_below (by kernel_rfl) (by kernel_rfl) ?_
    repeat (first
      | (refine qv_skip (by rfl) ?_; simp only [Act.put, List.setIfInBounds_toArray, List.set_cons_zero, List.set_cons_succ])
      | (refine qv_val' (by rfl) ?_; apply Exists.intro; refine ⟨fun w5 hC => ?_, ?_⟩; (have qqr0 := below_cell hC Y0.out; have qqr1 := below_cell hC Y2.out; have qqr2 := below_cell hC Z6.out; have qqr3 := below_cell hC Z7.out; go_simp; rfl); simp only [Act.put, List.setIfInBounds_toArray, List.set_cons_zero, List.set_cons_succ]))
    refine qv_nil ?_
    intro w5 hC
    have HB5 := Lib.hid hC
    clear hC
    go_wp2_with fail
    go_ret
    exact ⟨by rw [HZ.out]; rfl, HB5.out⟩
end Go.Proofs.Ytfmfoiecphhhiaa
