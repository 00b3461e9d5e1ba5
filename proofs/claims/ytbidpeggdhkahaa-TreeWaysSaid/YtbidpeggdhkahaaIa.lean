/-
  Ia: (*ways.Maker).Steps, of what is so.
-/
import Derived.Test.YtbidpeggdhkahaaI9
set_option linter.unusedSimpArgs false
set_option linter.unusedVariables false
namespace Go.Proofs.Ytbidpeggdhkahaa
open Go.RowKit

section
variable {R : Ky → Int} {G : Gram} {W : ByteArray}
theorem name_less (H : RkOK R G W) {k : Ky} (h : 0 < R k) (hk : k.kind = 0) : ∃ s ∈ rulesTo R G k true G.rules.length, lessKB R s.kids (R k) = true := by
  obtain ⟨r0, x0, hx0, hh0, hH0, hl0⟩ := H.name k h hk
  have hs0 : (⟨r0, 0, conjKeys k r0 x0⟩ : Stp) ∈ ruleStep R k true r0 x0 := by
    unfold ruleStep
    rw [if_pos ⟨hh0, hH0⟩]
    simp
  refine ⟨_, rulesTo_has hx0 hs0 (List.getElem?_eq_some_iff.1 hx0).1, ?_⟩
  rw [lessKB_iff]
  intro q hq
  unfold conjKeys at hq
  obtain ⟨c, hc, rfl⟩ := List.mem_map.1 hq
  exact hl0 c (List.mem_range.1 hc)
theorem split_less (H : RkOK R G W) {k : Ky} {s : Sym} (h : 0 < R k) (hk : k.kind ≠ 0) (hs : symOf G k.plc = some s) (hn : 0 ≤ s.name) : ∃ q ∈ splitsTo R k s.name true (k.j - k.i + 1).toNat, lessKB R q.kids (R k) = true := by
  obtain ⟨d, hd, f1, f2, f3, f4⟩ := H.split k s h hk hs hn
  have hs0 : (⟨k.i + d, 0, [nameKey s.name k.i (k.i + d), seqKey (onP k.plc) (k.i + d) k.j]⟩ : Stp) ∈ splitStep R k s.name true (k.i + d) := by
    unfold splitStep
    rw [if_pos rfl, if_pos ⟨f1, f2⟩]
    exact List.mem_singleton.2 rfl
  refine ⟨_, splitsTo_has hs0 (by omega), ?_⟩
  rw [lessKB_iff]
  intro q hq
  simp only [List.mem_cons, List.mem_nil_iff, or_false] at hq
  rcases hq with rfl | rfl
  · exact f3
  · exact f4
end
theorem place_at {rules : List Rul} {p : Plc} (h : placeB rules p.rule p.conj p.pos = true) : ∃ (x : Rul) (y : Conj), 0 ≤ p.rule ∧ 0 ≤ p.conj ∧ 0 ≤ p.pos ∧ rules[p.rule.toNat]? = some x ∧ x.conj[p.conj.toNat]? = some y ∧ p.pos ≤ y.seq.length := by
  obtain ⟨rn, cn, qn, x, y, e1, e2, e3, hx, hy, hq⟩ := place_of h
  refine ⟨x, y, by omega, by omega, by omega, ?_, ?_, by omega⟩
  · rw [e1, Int.toNat_natCast]; exact hx
  · rw [e2, Int.toNat_natCast]; exact hy

set_option maxRecDepth 100000 in
set_option maxHeartbeats 8000000 in
/-- (*ways.Maker).Steps, of what is so. -/
theorem mStepsT {w : World} {m : MK} (h : MKAt w m) (F : m.Fits) (k : Ky) (hp : 0 < m.R k) :
    Calls Try.prog 21 #[.pointer (some ⟨m.p, 0, none⟩), kyV k] w (PicksPost w (picksB m.R m.t.G m.t.W m.full k)) := by
  have H := F.ok
  obtain ⟨i0, ij, j1⟩ := H.span k hp
  have hb0 : Below w.heap.size w (w.alloc (kyO k)) := below_alloc' (below_refl w) _
  have H0 := Lib.hid (h.mono hb0)
  have x4 := heap_alloc_new w (kyO k)
  obtain ⟨b0, hb⟩ : ∃ b0, b0 = w.heap.size := ⟨_, rfl⟩
  have dp : decide (0 < m.R k) = true := by simpa using hp
  have dz : (m.R k == 0) = false := by simp; omega
  clear h
  by_cases hk : k.kind = 0
  · have dk : (k.kind == 0) = true := by simpa using hk
    have HV := Lib.hid (show picksB m.R m.t.G m.t.W m.full k = chosenB m.R m.full (rulesTo m.R m.t.G k true m.t.G.rules.length) (m.R k) by unfold picksB; rw [if_pos hk, if_pos hp])
    have HLS := Lib.hid (name_less H hp hk)
    clear hk
    unfold kyV
    go_enter Try.func21, Try.ntmps21
    go_upto_region 1 with fail
    change Code.wp _ _ _ _ (w.alloc (kyO k))
    rw [← hb] at x4 ⊢
    generalize w.alloc (kyO k) = w0 at hb0 H0 x4 ⊢
    have HB0 := Lib.hid hb0
    have X4 := Lib.hid x4
    have CELLS := Lib.hid (fun (W : World) (hW : Below w0.heap.size w0 W) => (kyAt_blk (blk_below x4 hW)))
    have z0 : w0.cell? ⟨b0, 0, none⟩ = some (.int .i64 k.kind) := blk_cell x4 0
    have z1 : w0.cell? ⟨b0, 1, none⟩ = some (.int .i64 k.name) := by simpa using blk_cell x4 1
    have z2 : w0.cell? ⟨b0, 2, none⟩ = some (.int .i64 k.plc.rule) := by simpa using blk_cell x4 2
    have z3 : w0.cell? ⟨b0, 3, none⟩ = some (.int .i64 k.plc.conj) := by simpa using blk_cell x4 3
    have z4 : w0.cell? ⟨b0, 4, none⟩ = some (.int .i64 k.plc.pos) := by simpa using blk_cell x4 4
    have z5 : w0.cell? ⟨b0, 5, none⟩ = some (.int .i64 k.i) := by simpa using blk_cell x4 5
    have z6 : w0.cell? ⟨b0, 6, none⟩ = some (.int .i64 k.j) := by simpa using blk_cell x4 6
    have CR := Lib.hid (mkRank H0.out F k)
    clear hb0 hb x4 hp
    go_wp2_with (first
      | (go_at_call 14; refine CR.out.mono ?_; rintro e w1 ⟨rfl, hb1⟩; have HB1 := Lib.hid hb1; have z0 := below_cell hb1 z0; have z1 := below_cell hb1 z1; have z2 := below_cell hb1 z2; have z3 := below_cell hb1 z3; have z4 := below_cell hb1 z4; have z5 := below_cell hb1 z5; have z6 := below_cell hb1 z6; clear hb1)
      | (go_at_call 29; refine (mRulesT (H0.out.mono HB1.out) F k i0 ij j1).mono ?_; rintro e w2 ⟨A2, c2, rfl, l1, l2, hC2, hb2⟩; have HC2 := Lib.hid (fun w'' (hu : Upd (fun b => b < w.heap.size) w2 w'') => hC2 w'' (upd_low hu (below_then HB0.out HB1.out).size)); have HB2 := Lib.hid (below_then HB1.out hb2); clear hb2 hC2)
      | (go_at_call 32; refine (mChosen (H0.out.mono HB2.out) F HC2.out l1 l2 (m.R k) (fun _ => HLS.out)).mono ?_; rintro e w3 ⟨A3, c3, rfl, l3, l4, hC3, hb3⟩; have HC3 := Lib.hid hC3; have HB3 := Lib.hid (below_then HB2.out hb3); clear hb3 hC3)
      | fail)
    go_ret
    rw [HV.out]
    exact ⟨A3, c3, rfl, l3, l4, HC3.out, below_then HB0.out HB3.out⟩
  · have dk : (k.kind == 0) = false := by simpa using hk
    obtain ⟨x, y, p0, p1, p2, hx, hy, hq⟩ := place_at (H.pl k hp hk)
    have hql := F.may.seq _ x _ y hx hy
    have hrl := (List.getElem?_eq_some_iff.1 hx).1
    have hcl := (List.getElem?_eq_some_iff.1 hy).1
    have hcap := F.cap
    have hcap' := F.cap'
    have hrl' : k.plc.rule < (m.t.G.rules.length : Int) := by omega
    have hcl' : k.plc.conj < (x.conj.length : Int) := by omega
    have hso : symOf m.t.G k.plc = y.seq[k.plc.pos.toNat]? := by
      unfold symOf cjAt
      rw [if_neg (by omega), hx]
      simp only [hy]
    obtain ⟨ad, A1, c1, eA, -, r0, r1, q1, q2, hC1⟩ := rul_at H0.out.gR hx
    obtain ⟨ad1, A2, c2, rfl, -, y0, y1, q3, q4, hC2⟩ := conj_at hC1 hy
    have R1 := Lib.hid r1
    have Y1 := Lib.hid y1
    have M0 := Lib.hid H0.out.m0
    have G2 := Lib.hid (show (w.alloc (kyO k)).cell? ⟨m.g, 2, none⟩ = some (.slice (some ad) m.t.G.rules.length m.c) by rw [← eA]; exact H0.out.g2)
    have HCS := Lib.hid hC2
    have HSO := Lib.hid hso
    have HPK := Lib.hid (show picksB m.R m.t.G m.t.W m.full k = match y.seq[k.plc.pos.toNat]? with | none => [] | some s => if s.name < 0 then byteStep m.t.W k s else chosenB m.R m.full (splitsTo m.R k s.name true (k.j - k.i + 1).toNat) (m.R k) by
      unfold picksB
      rw [if_neg hk, hso]
      cases y.seq[k.plc.pos.toNat]? with
      | none => rfl
      | some s => simp only [if_pos hp])
    have HLS := Lib.hid (fun (s : Sym) (hs : y.seq[k.plc.pos.toNat]? = some s) (hn : 0 ≤ s.name) => split_less H hp hk (hso.trans hs) hn)
    clear hk hso hx hy r0 r1 y0 y1 hC1 hC2
    unfold kyV
    go_enter Try.func21, Try.ntmps21
    go_upto_region 1 with fail
    change Code.wp _ _ _ _ (w.alloc (kyO k))
    rw [← hb] at x4 ⊢
    generalize w.alloc (kyO k) = w0 at hb0 H0 x4 R1 Y1 M0 G2 HCS ⊢
    have HB0 := Lib.hid hb0
    have z0 : w0.cell? ⟨b0, 0, none⟩ = some (.int .i64 k.kind) := blk_cell x4 0
    have z1 : w0.cell? ⟨b0, 1, none⟩ = some (.int .i64 k.name) := by simpa using blk_cell x4 1
    have z2 : w0.cell? ⟨b0, 2, none⟩ = some (.int .i64 k.plc.rule) := by simpa using blk_cell x4 2
    have z3 : w0.cell? ⟨b0, 3, none⟩ = some (.int .i64 k.plc.conj) := by simpa using blk_cell x4 3
    have z4 : w0.cell? ⟨b0, 4, none⟩ = some (.int .i64 k.plc.pos) := by simpa using blk_cell x4 4
    have z5 : w0.cell? ⟨b0, 5, none⟩ = some (.int .i64 k.i) := by simpa using blk_cell x4 5
    have z6 : w0.cell? ⟨b0, 6, none⟩ = some (.int .i64 k.j) := by simpa using blk_cell x4 6
    have CR := Lib.hid (mkRank H0.out F k)
    clear hb0 hb x4 hp
    go_upto_region 5 with (first
      | (go_at_call 14; refine CR.out.mono ?_; rintro e w1 ⟨rfl, hb1⟩; have HB1 := Lib.hid hb1; have z0 := below_cell hb1 z0; have z1 := below_cell hb1 z1; have z2 := below_cell hb1 z2; have z3 := below_cell hb1 z3; have z4 := below_cell hb1 z4; have z5 := below_cell hb1 z5; have z6 := below_cell hb1 z6; have R1 := Lib.hid (below_cell hb1 R1.out); have Y1 := Lib.hid (below_cell hb1 Y1.out); have M0 := Lib.hid (below_cell hb1 M0.out); have G2 := Lib.hid (below_cell hb1 G2.out); clear hb1)
      | fail)
    have Z2 := Lib.hid z2
    have Z3 := Lib.hid z3
    refine wp_region_below (by kernel_rfl) (by kernel_rfl) ?_
    repeat (first
      | (refine qv_skip (by rfl) ?_; simp only [Act.put, List.setIfInBounds_toArray, List.set_cons_zero, List.set_cons_succ])
      | (refine qv_val' (by rfl) ?_; apply Exists.intro; refine ⟨fun w5 hC => ?_, ?_⟩; (have qqr0 := below_cell hC M0.out; have qqr1 := below_cell hC G2.out; have qqr2 := below_cell hC R1.out; have qqr3 := below_cell hC Y1.out; have qqr4 := below_cell hC Z2.out; have qqr5 := below_cell hC Z3.out; go_simp; rfl); simp only [Act.put, List.setIfInBounds_toArray, List.set_cons_zero, List.set_cons_succ]))
    refine qv_nil ?_
    intro w5 hC
    have HB5 := Lib.hid (below_then HB1.out hC)
    have z0 := below_cell hC z0
    have z1 := below_cell hC z1
    have z2 := below_cell hC z2
    have z3 := below_cell hC z3
    have z4 := below_cell hC z4
    have z5 := below_cell hC z5
    have z6 := below_cell hC z6
    clear hC CR
    by_cases he : k.plc.pos = y.seq.length
    · have de : (k.plc.pos == (y.seq.length : Int)) = true := by simpa using he
      have HV := Lib.hid (show picksB m.R m.t.G m.t.W m.full k = [] by rw [HPK.out, show y.seq[k.plc.pos.toNat]? = none from List.getElem?_eq_none (by omega)])
      clear he
      go_wp2_with fail
      go_ret
      rw [HV.out]
      exact picksPost_nil (below_then HB0.out HB5.out)
    · have de : (k.plc.pos == (y.seq.length : Int)) = false := by simpa using he
      obtain ⟨s, hs⟩ : ∃ s, y.seq[k.plc.pos.toNat]? = some s := ⟨_, List.getElem?_eq_getElem (by omega)⟩
      have hlt : k.plc.pos < (y.seq.length : Int) := by omega
      obtain ⟨ad2, rfl, -, s0, s1, s2⟩ := sym_at (HCS.out.mono HB5.out) hs
      have HS := Lib.hid hs
      by_cases hn : s.name < 0
      · have dn : decide (s.name < 0) = true := by simpa using hn
        have HV := Lib.hid (show picksB m.R m.t.G m.t.W m.full k = byteStep m.t.W k s by rw [HPK.out, hs]; simp only [if_pos hn])
        clear he hs hn
        have za0 : ∀ o, (w5.alloc o).cell? ⟨b0, 0, none⟩ = w5.cell? ⟨b0, 0, none⟩ := fun o => by rw [z0]; exact below_cell (below_alloc' (below_refl _) o) z0
        have za1 : ∀ o, (w5.alloc o).cell? ⟨b0, 1, none⟩ = w5.cell? ⟨b0, 1, none⟩ := fun o => by rw [z1]; exact below_cell (below_alloc' (below_refl _) o) z1
        have za2 : ∀ o, (w5.alloc o).cell? ⟨b0, 2, none⟩ = w5.cell? ⟨b0, 2, none⟩ := fun o => by rw [z2]; exact below_cell (below_alloc' (below_refl _) o) z2
        have za3 : ∀ o, (w5.alloc o).cell? ⟨b0, 3, none⟩ = w5.cell? ⟨b0, 3, none⟩ := fun o => by rw [z3]; exact below_cell (below_alloc' (below_refl _) o) z3
        have za4 : ∀ o, (w5.alloc o).cell? ⟨b0, 4, none⟩ = w5.cell? ⟨b0, 4, none⟩ := fun o => by rw [z4]; exact below_cell (below_alloc' (below_refl _) o) z4
        have za5 : ∀ o, (w5.alloc o).cell? ⟨b0, 5, none⟩ = w5.cell? ⟨b0, 5, none⟩ := fun o => by rw [z5]; exact below_cell (below_alloc' (below_refl _) o) z5
        have za6 : ∀ o, (w5.alloc o).cell? ⟨b0, 6, none⟩ = w5.cell? ⟨b0, 6, none⟩ := fun o => by rw [z6]; exact below_cell (below_alloc' (below_refl _) o) z6
        go_wp2_with (first
          | (go_at_call 30; refine (mByte (H0.out.mono (below_then HB5.out (below_alloc' (below_refl _) _))) F k s i0 ij j1 p2 (by omega)).mono ?_; rintro e w2 ⟨A3, c3, rfl, l1, l2, hC3, hb2⟩; have HC3 := Lib.hid (fun w'' (hu : Upd (fun b => b < w.heap.size) w2 w'') => hC3 w'' (upd_low hu (below_then HB0.out (below_then HB5.out (below_alloc' (below_refl _) _))).size)); have HB2 := Lib.hid hb2; clear hb2 hC3)
          | fail)
        go_ret
        rw [HV.out]
        exact ⟨A3, c3, rfl, l1, l2, HC3.out, below_then HB0.out (below_then HB5.out (below_then (below_alloc' (below_refl _) _) HB2.out))⟩
      · have dn : decide (s.name < 0) = false := by simpa using hn
        have HV := Lib.hid (show picksB m.R m.t.G m.t.W m.full k = chosenB m.R m.full (splitsTo m.R k s.name true (k.j - k.i + 1).toNat) (m.R k) by rw [HPK.out, hs]; simp only [if_neg hn])
        have HL := Lib.hid (HLS.out s hs (by omega))
        clear he hs hn
        have za0 : ∀ o, (w5.alloc o).cell? ⟨b0, 0, none⟩ = w5.cell? ⟨b0, 0, none⟩ := fun o => by rw [z0]; exact below_cell (below_alloc' (below_refl _) o) z0
        have za1 : ∀ o, (w5.alloc o).cell? ⟨b0, 1, none⟩ = w5.cell? ⟨b0, 1, none⟩ := fun o => by rw [z1]; exact below_cell (below_alloc' (below_refl _) o) z1
        have za2 : ∀ o, (w5.alloc o).cell? ⟨b0, 2, none⟩ = w5.cell? ⟨b0, 2, none⟩ := fun o => by rw [z2]; exact below_cell (below_alloc' (below_refl _) o) z2
        have za3 : ∀ o, (w5.alloc o).cell? ⟨b0, 3, none⟩ = w5.cell? ⟨b0, 3, none⟩ := fun o => by rw [z3]; exact below_cell (below_alloc' (below_refl _) o) z3
        have za4 : ∀ o, (w5.alloc o).cell? ⟨b0, 4, none⟩ = w5.cell? ⟨b0, 4, none⟩ := fun o => by rw [z4]; exact below_cell (below_alloc' (below_refl _) o) z4
        have za5 : ∀ o, (w5.alloc o).cell? ⟨b0, 5, none⟩ = w5.cell? ⟨b0, 5, none⟩ := fun o => by rw [z5]; exact below_cell (below_alloc' (below_refl _) o) z5
        have za6 : ∀ o, (w5.alloc o).cell? ⟨b0, 6, none⟩ = w5.cell? ⟨b0, 6, none⟩ := fun o => by rw [z6]; exact below_cell (below_alloc' (below_refl _) o) z6
        go_wp2_with (first
          | (go_at_call 31; refine (mSplits (H0.out.mono (below_then HB5.out (below_alloc' (below_refl _) _))) F k s.name true i0 ij j1 p2 (by omega)).mono ?_; rintro e w2 ⟨A3, c3, rfl, l1, l2, hC3, hb2⟩; have HC3 := Lib.hid (fun w'' (hu : Upd (fun b => b < w.heap.size) w2 w'') => hC3 w'' (upd_low hu (below_then HB0.out (below_then HB5.out (below_alloc' (below_refl _) _))).size)); have HB2 := Lib.hid (below_then HB5.out (below_then (below_alloc' (below_refl _) _) hb2)); clear hb2 hC3)
          | (go_at_call 32; refine (mChosen (H0.out.mono HB2.out) F HC3.out l1 l2 (m.R k) (fun _ => HL.out)).mono ?_; rintro e w3 ⟨A4, c4, rfl, l3, l4, hC4, hb3⟩; have HC4 := Lib.hid hC4; have HB3 := Lib.hid (below_then HB2.out hb3); clear hb3 hC4)
          | fail)
        go_ret
        rw [HV.out]
        exact ⟨A4, c4, rfl, l3, l4, HC4.out, below_then HB0.out HB3.out⟩
end Go.Proofs.Ytbidpeggdhkahaa
