/-
  Ir: templelaw22.walked; templelaw22.TreeBytes answers true.
-/
import Derived.Test.YtbidpeggdhkahaaIk
import Derived.Test.YtbidpeggdhkahaaIq
set_option linter.unusedSimpArgs false
set_option linter.unusedVariables false
namespace Go.Proofs.Ytbidpeggdhkahaa
open Go.RowKit

def brO (b : Brn) : Obj := .cells #[.int .i64 b.name, .int .i64 b.rule, .int .i64 b.i, .int .i64 b.j, .int .i64 b.kids] 41 (0, 0)
def WkR (w1 : World) (R : Ky → Int) (G : Gram) (W : ByteArray) (bs : List Brn) (k : Ky) (r : Nat) (y : Conj) (fin : Nat) (s12 s13 s14 : Value) (wr : World) : Prop :=
  ∃ (m : Nat) (i : Int) (at' : Nat), s12 = .int .i64 i ∧ s13 = .int .i64 at' ∧ s14 = .int .i64 m ∧ WkI R G W bs k r y fin m i at' ∧ Below w1.heap.size w1 wr

set_option maxRecDepth 100000 in
set_option maxHeartbeats 4000000 in
theorem walked_any {R : Ky → Int} {G : Gram} {W : ByteArray} (H : RkOK R G W) (O : OneB G) (hl : ∀ (r : Nat) (x : Rul) (c : Nat) (y : Conj), G.rules[r]? = some x → x.conj[c]? = some y → y.seq.length ≤ 64) (hW : W.size ≤ 32) {A A' Ab : Option Addr} {c c' cb : Nat} (n4 : G.rules.length ≤ c') (n5 : c' ≤ 9223372036854775807) {bs : List Brn} (m4 : bs.length ≤ cb) (m5 : cb ≤ 9223372036854775807) :
    ∀ (n : Nat) (k : Ky) (p : Nat) (w : World), R k ≤ n → 0 < R k → k.kind = 0 → (∃ rest, bs.drop p = treeOf R G W k ++ rest) → rulRd.C w A' G.rules → brnRd.C w Ab bs →
    Calls Try.prog 10 #[.agg #[.int .i64 G.start, .slice A G.names.length c, .slice A' G.rules.length c'], .string W, .slice Ab bs.length cb, .int .i64 p] w
      fun e w' => e = .returned (.tuple #[.int .i64 k.j, .int .i64 (p + (treeOf R G W k).length : Nat)]) ∧ Below w.heap.size w w' := by
  intro n
  induction n with
  | zero => intro k p w h1 h2; omega
  | succ n ih =>
  intro k p w hle h hk hd hR hB
  obtain ⟨r, x, y, hx, hy, hbp, I0⟩ := wk_start H O h hk hd
  obtain ⟨sp0, sp1, sp2⟩ := H.span k h
  have hr := (List.getElem?_eq_some_iff.1 hx).1
  have hp := (List.getElem?_eq_some_iff.1 hbp).1
  have hyl := hl r x 0 y hx (by rw [hy]; rfl)
  obtain ⟨fin, hfin⟩ : ∃ fin, fin = p + (treeOf R G W k).length := ⟨_, rfl⟩
  rw [← hfin] at I0 ⊢
  obtain ⟨kids, hkids⟩ : ∃ kids : Nat, kids = (beneathB R G W k).2.length := ⟨_, rfl⟩
  rw [← hkids] at hbp
  have hb0 : Below w.heap.size w (w.alloc (grO G A A' c c')) := below_alloc' (below_refl w) _
  have B0 := heap_alloc_new w (grO G A A' c c')
  have R1 := hR.mono hb0
  have BB1 := hB.mono hb0
  obtain ⟨gb, hgb⟩ : ∃ b, b = w.heap.size := ⟨_, rfl⟩
  have I0 := Lib.hid I0
  have IH := Lib.hid ih
  have HX := Lib.hid hx
  have HY := Lib.hid hy
  have HLE := Lib.hid hle
  clear hR hB hd ih hkids hfin hx hy hle
  go_enter Try.func10, Try.ntmps10
  go_upto_region 1 with fail
  change Code.wp _ _ _ _ (w.alloc (grO G A A' c c'))
  rw [← hgb] at B0 ⊢
  generalize w.alloc (grO G A A' c c') = w0 at hb0 B0 R1 BB1 ⊢
  obtain ⟨ad, eA, K1⟩ := br_at BB1 hbp
  subst eA
  have hb1 : Below w0.heap.size w0 (w0.alloc (brO ⟨k.name, r, k.i, k.j, kids⟩)) := below_alloc' (below_refl w0) _
  have B1 := heap_alloc_new w0 (brO ⟨k.name, r, k.i, k.j, kids⟩)
  have B0' := blk_below B0 hb1
  have HR2 := Lib.hid (R1.mono hb1)
  have HB2 := Lib.hid (BB1.mono hb1)
  have hb2 := below_then hb0 hb1
  obtain ⟨bb, hbb⟩ : ∃ b, b = w0.heap.size := ⟨_, rfl⟩
  have hpi : (p : Int) < bs.length := by omega
  have P0 : w0.cell? (ad.add (p * 5)) = some (.int .i64 k.name) := K1.c0
  have P1 := K1.c1
  have P2 := K1.c2
  have P3 := K1.c3
  have P4 := K1.c4
  simp only at P1 P2 P3 P4
  clear K1 R1 BB1 B0 hb0 hb1 hbp
  go_upto_region 2 with fail
  change Code.wp _ _ _ _ (w0.alloc (brO ⟨k.name, r, k.i, k.j, kids⟩))
  rw [← hbb] at B1 ⊢
  generalize w0.alloc (brO ⟨k.name, r, k.i, k.j, kids⟩) = w1 at hb2 B1 B0' HR2 HB2 ⊢
  have z2 : w1.cell? ⟨gb, 2, none⟩ = some (.slice A' G.rules.length c') := blk_cell B0' 2
  have z0 : w1.cell? ⟨gb, 0, none⟩ = some (.int .i64 G.start) := blk_cell B0' 0
  have z1 : w1.cell? ⟨gb, 1, none⟩ = some (.slice A G.names.length c) := blk_cell B0' 1
  have y1 : w1.cell? ⟨bb, 1, none⟩ = some (.int .i64 r) := blk_cell B1 1
  have y2 : w1.cell? ⟨bb, 2, none⟩ = some (.int .i64 k.i) := blk_cell B1 2
  have y3 : w1.cell? ⟨bb, 3, none⟩ = some (.int .i64 k.j) := blk_cell B1 3
  have HB1 := Lib.hid hb2
  clear hb2 B1 B0' P0 P1 P2 P3 P4 hbb hgb w0
  obtain ⟨ad2, A1, c1, eA, -, -, h1, l1, l2, hC⟩ := rul_at HR2.out HX.out
  subst eA
  rw [HY.out] at h1 hC l1
  obtain ⟨ad3, A2, c2, eA, -, -, g1, q1, q2, hS⟩ := conj_at hC (i := 0) (x := y) rfl
  subst eA
  have HS := Lib.hid hS
  rw [Nat.zero_mul] at g1
  rw [addr_add0] at g1
  have hri : (r : Int) < G.rules.length := by omega
  have b1 : ¬ ((r : Int) < 0) := by omega
  have b2 : ¬ ((G.rules.length : Int) ≤ r) := by omega
  have b3 : ¬ (k.i < 0) := by omega
  have b4 : ¬ ((W.size : Int) < k.j) := by omega
  clear hC hS
  go_wp2_with fail
  have HNY := Lib.hid (show y.seq.length ≤ c2 from q1)
  clear b1 b2 b3 b4 y1 y2 h1 l1 l2 g1 hri hpi
  go_loopw [12, 13, 14] (fun s12 s13 s14 wr => WkR w1 R G W bs k r y fin s12 s13 s14 wr) (fun _ _ s14 _ => y.seq.length - (intOf s14).toNat)
  case atStart => exact ⟨0, k.i, p + 1, rfl, rfl, rfl, I0.out, below_refl _⟩
  case round =>
    obtain ⟨m, i, at', rfl, rfl, rfl, hI, hb⟩ := hrel
    have HI := Lib.hid hI
    have HB := Lib.hid hb
    have Z0 := Lib.hid (below_cell hb z0)
    have Z1 := Lib.hid (below_cell hb z1)
    have Z2 := Lib.hid (below_cell hb z2)
    have Y3 := Lib.hid (below_cell hb y3)
    clear hI hb z0 z1 z2 y3
    by_cases hlt : m < y.seq.length
    · obtain ⟨s, hs⟩ : ∃ s, y.seq[m]? = some s := ⟨_, List.getElem?_eq_getElem hlt⟩
      obtain ⟨ad4, eA, -, t0, t1, t2⟩ := sym_at (HS.out.mono HB.out) hs
      subst eA
      have hmi : (m : Int) < y.seq.length := by omega
      by_cases hn : s.name < 0
      · obtain ⟨i0, i1, i2, g2, g3, I1⟩ := wk_byte H HX.out HY.out hyl HI.out hs hn
        have HI1 := Lib.hid I1
        have c1 : i < W.size := by omega
        have c2 : i.toNat < W.size := by omega
        have hbt := btz_at W i c2
        have hbr := btz_range W i
        have ew : IntKind.i64.wrap (btz W i) = btz W i := IntWalk.i64_in _ (by omega)
        have d1 : decide (k.j ≤ i) = false := by simpa using i1
        have d2 : decide (btz W i < s.lo) = false := by simpa using g2
        have d3 : decide (s.hi < btz W i) = false := by simpa using g3
        have T1 := Lib.hid t1
        have T2 := Lib.hid t2
        clear HI I1 i1 g2 g3 t1 t2
        go_upto_region 10 with fail
        refine wp_region_below (by kernel_rfl) (by kernel_rfl) ?_
        repeat (first
          | (refine qv_skip (by rfl) ?_; simp only [Act.put, List.setIfInBounds_toArray, List.set_cons_zero, List.set_cons_succ])
          | (refine qv_val' (by rfl) ?_; apply Exists.intro; refine ⟨fun w5 hC => ?_, ?_⟩; (have qqr0 := below_cell hC Y3.out; have qqr1 := below_cell hC T1.out; have qqr2 := below_cell hC T2.out; go_simp; rfl); simp only [Act.put, List.setIfInBounds_toArray, List.set_cons_zero, List.set_cons_succ]))
        refine qv_nil ?_
        intro w5 hC
        have HB5 := Lib.hid (below_then HB.out hC)
        clear hC
        go_wp2_with fail
        go_roundw
        case rel => exact ⟨m + 1, i + 1, at', by go_num, rfl, by go_num, HI1.out, HB5.out⟩
        case measure => simp [intOf]; omega
      · have hn0 : 0 ≤ s.name := by omega
        obtain ⟨z, zz0, zz1, zz2, ⟨b, hba, hbn, hbi⟩, hdz, I1⟩ := wk_name H HX.out HY.out hyl HI.out hs hn0
        have hat := (List.getElem?_eq_some_iff.1 hba).1
        obtain ⟨ad5, eA, K5⟩ := br_at (HB2.out.mono HB.out) hba
        injection eA with eA
        subst eA
        obtain ⟨a2, ha2⟩ : ∃ a2 : Nat, a2 = at' + (treeOf R G W (nameKey s.name i z)).length := ⟨_, rfl⟩
        rw [← ha2] at I1
        have HI1 := Lib.hid I1
        have HA2 := Lib.hid ha2
        clear ha2
        have V0 := Lib.hid (show wr.cell? (ad.add (at' * 5)) = some (.int .i64 s.name) from hbn ▸ K5.c0)
        have V2 := Lib.hid (show wr.cell? ⟨(ad.add (at' * 5)).block, (ad.add (at' * 5)).off + 2, none⟩ = some (.int .i64 i) from hbi ▸ K5.c2)
        have T0 := Lib.hid t0
        have e2 : decide (bs.length ≤ at') = false := by simp; omega
        have e3 : (s.name != s.name) = false := by simp
        have e4 : (i != i) = false := by simp
        have e5 : (at' : Int) < bs.length := by omega
        have b1 : ¬ (s.name < 0) := hn
        have HZ := Lib.hid zz2
        have HD := Lib.hid hdz
        have HZ1 := Lib.hid zz1
        clear HI I1 t1 t2 K5 hba hbn hbi zz2 hdz zz1
        go_upto_region 13 with fail
        refine wp_region_below (by kernel_rfl) (by kernel_rfl) ?_
        repeat (first
          | (refine qv_skip (by rfl) ?_; simp only [Act.put, List.setIfInBounds_toArray, List.set_cons_zero, List.set_cons_succ])
          | (refine qv_val' (by rfl) ?_; apply Exists.intro; refine ⟨fun w5 hC => ?_, ?_⟩; (have qqr0 := below_cell hC V0.out; have qqr1 := below_cell hC V2.out; have qqr2 := below_cell hC T0.out; go_simp; rfl); simp only [Act.put, List.setIfInBounds_toArray, List.set_cons_zero, List.set_cons_succ]))
        refine qv_nil ?_
        intro w5 hC
        have HB5 := Lib.hid (below_then HB.out hC)
        have z0 := below_cell hC Z0.out
        have z1 := below_cell hC Z1.out
        have z2 : w5.cell? ⟨gb, 2, none⟩ = some (.slice (some ad2) G.rules.length c') := below_cell hC Z2.out
        have CR := Lib.hid (show Calls Try.prog 10 #[.agg #[.int .i64 G.start, .slice A G.names.length c, .slice (some ad2) G.rules.length c'], .string W, .slice (some ad) bs.length cb, .int .i64 at'] w5
            fun e w' => e = .returned (.tuple #[.int .i64 z, .int .i64 a2]) ∧ Below w5.heap.size w5 w' from by
          rw [HA2.out]
          exact IH.out (nameKey s.name i z) at' w5 (by have := HZ.out; have := HLE.out; omega) HZ1.out rfl HD.out (HR2.out.mono HB5.out) (HB2.out.mono HB5.out))
        have d1 : ¬ (z < 0) := by omega
        clear hC e2 e3 e4 e5
        go_wp2_with (first
          | (go_at_call 10; (with_reducible refine CR.out.mono ?_); rintro e w6 ⟨rfl, hb6⟩; have HB6 := Lib.hid (below_then HB5.out hb6); clear hb6)
          | fail)
        go_roundw
        case rel => exact ⟨m + 1, z, a2, rfl, rfl, by go_num, HI1.out, HB6.out⟩
        case measure => simp [intOf]; omega
    · obtain ⟨e1, e2⟩ := wk_end H HX.out HY.out HI.out (by have := HI.out.hm; omega)
      subst e1 e2
      have b1 : ¬ ((m : Int) < y.seq.length) := by omega
      have y3 := Y3.out
      clear HI
      go_wp2_with fail
      refine bodyPost_ret (v := .tuple #[.int .i64 k.j, .int .i64 at']) (by simp [results, Try.results10, go_sem]) rfl ?_
      exact ⟨rfl, below_then HB1.out HB.out⟩
end Go.Proofs.Ytbidpeggdhkahaa
