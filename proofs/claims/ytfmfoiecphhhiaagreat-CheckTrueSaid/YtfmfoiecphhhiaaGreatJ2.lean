/-
  J2: the law CheckTrue, walked.
-/
import Derived.Test.YtfmfoiecphhhiaaGreatJ1
import Derived.Test.YtfmfoiecphhhiaaGreatN21
import Derived.Test.YtfmfoiecphhhiaaGreatT2
import Derived.Test.YtfmfoiecphhhiaaGreatB1
set_option linter.unusedSimpArgs false
set_option linter.unusedVariables false
namespace Go.Proofs.YtfmfoiecphhhiaaGreat
open Go.RowKit

theorem asked_parts {G : Gram} {W : ByteArray} {C : Crt} (h : ¬ NotAsked G W C) : mayB G = true ∧ ¬ NegCyc (edgesOf G) ∧ W.size ≤ 32 := by
  refine ⟨?_, fun hc => h (.inl (.inr hc)), ?_⟩
  · cases hm : mayB G with
    | true => rfl
    | false => exact absurd (.inl (.inl hm)) h
  · by_cases h1 : 32 < W.size
    · exact absurd (.inr (.inl h1)) h
    · omega
theorem taken_root {C : Crt} {G : Gram} {W : ByteArray} (h : takenB C G W = true) : ∃ (n : Nat) (y : Nod), C.root = (n : Int) ∧ C.nodes[n]? = some y ∧ signB C = y.sign ∧ y.ky = nameKey G.start 0 W.size := by
  obtain ⟨n, y, h1, h2, h3⟩ := root_of_taken h
  refine ⟨n, y, h1, h2, h3, ?_⟩
  unfold takenB rootB at h
  simp only [Bool.and_eq_true, Bool.or_eq_true] at h
  rcases h.1.2 with hb | hb
  all_goals
    obtain ⟨z, hz, -, -, hk⟩ := isB_node hb
    rw [h1, ndAt_nat, h2] at hz
    cases hz
    exact hk
theorem taken_nodes {C : Crt} {G : Gram} {W : ByteArray} (h : takenB C G W = true) : ∀ x ∈ C.nodes, nodeB C G W x = true := by
  unfold takenB at h
  simp only [Bool.and_eq_true, List.all_eq_true] at h
  exact h.2
/-- What the document's table says of a node is its sign. -/
theorem ans_name {t : RT} {T st : Rk × Rk} {C : Crt} (R : RanksIn t T st) (hT : ∀ x ∈ C.nodes, (0 < KyIn t.G T x.ky ↔ x.sign = true)) {x : Nod} (hx : x ∈ C.nodes) (hn : nodeB C t.G t.W x = true) (hk : x.kind = 0) : decide (0 < t.rank st.1 x.name x.i x.j) = x.sign := by
  obtain ⟨hky, k0, k1, -⟩ := nodeB_name hn hk
  have hs := nodeB_span hn
  have h1 := hT x hx
  obtain ⟨k, hkk⟩ : ∃ k : Nat, x.name = (k : Int) := ⟨x.name.toNat, by omega⟩
  rw [hky, kyIn_name, hkk, Int.toNat_natCast] at h1
  rw [hkk, rrank_at (by omega) hs.i0 hs.ij hs.j1, R.n k x.i x.j (by omega) hs.i0 hs.ij hs.j1]
  rw [Bool.eq_iff_iff, decide_eq_true_eq]
  exact h1
theorem ans_rest {t : RT} {T st : Rk × Rk} {C : Crt} (R : RanksIn t T st) (hT : ∀ x ∈ C.nodes, (0 < KyIn t.G T x.ky ↔ x.sign = true)) {x : Nod} (hx : x ∈ C.nodes) (hn : nodeB C t.G t.W x = true) (hk : x.kind ≠ 0) : decide (0 < t.rrank st.2 x.plc.rule x.plc.conj x.plc.pos x.i x.j) = x.sign := by
  obtain ⟨r, c, q, y, z, hp, pl, hky, -, -, -⟩ := nodeB_rest hn hk
  have hs := nodeB_span hn
  have h1 := hT x hx
  rw [hky, kyIn_seq] at h1
  rw [hp]
  simp only
  rw [rrestRank_at pl hs.i0 hs.ij hs.j1, R.p r c q y z x.i x.j pl hs.i0 hs.ij hs.j1]
  rw [Bool.eq_iff_iff, decide_eq_true_eq]
  exact h1
def TrRel (w : World) (n : Nat) (cnt : Value) (wr : World) : Prop := ∃ k : Nat, cnt = .int .i64 k ∧ k ≤ n ∧ Below w.heap.size w wr

set_option maxRecDepth 100000 in
set_option maxHeartbeats 16000000 in
theorem true_any {w : World} (G : Gram) (W : ByteArray) (C : Crt) {A A' An : Option Addr} {c c' cn : Nat} (hWs : W.size < 9223372036854775807) (n1 : G.names.length ≤ c) (n2 : c ≤ 9223372036854775807) (n3 : Rd.str.C w A G.names) (n4 : G.rules.length ≤ c') (n5 : c' ≤ 9223372036854775807) (n6 : rulRd.C w A' G.rules)
    (m1 : C.nodes.length ≤ cn) (m2 : cn ≤ 9223372036854775807) (m3 : nodRd.C w An C.nodes) (hwf : ∀ x ∈ C.nodes, KyWf x.ky) :
    Calls Tryz.prog 4 #[.agg #[.int .i64 G.start, .slice A G.names.length c, .slice A' G.rules.length c'], .string W, .agg #[.int .i64 C.root, .slice An C.nodes.length cn]] w fun e w' => e = .returned (.bool true) ∧ Below w.heap.size w w' := by
  have b0 := heap_alloc2_old w (Obj.cells #[.int .i64 G.start, .slice A G.names.length c, .slice A' G.rules.length c'] 25) (Obj.cells #[.int .i64 C.root, .slice An C.nodes.length cn] 28)
  have b2 := heap_alloc2_new w (Obj.cells #[.int .i64 G.start, .slice A G.names.length c, .slice A' G.rules.length c'] 25) (Obj.cells #[.int .i64 C.root, .slice An C.nodes.length cn] 28)
  have hb0 : Below w.heap.size w ((w.alloc (Obj.cells #[.int .i64 G.start, .slice A G.names.length c, .slice A' G.rules.length c'] 25)).alloc (Obj.cells #[.int .i64 C.root, .slice An C.nodes.length cn] 28)) := below_alloc' (below_alloc' (below_refl w) _) _
  have N3 := Lib.hid n3
  have N6 := Lib.hid n6
  have M3 := Lib.hid m3
  have HWF := Lib.hid hwf
  clear n3 n6 m3 hwf
  go_enter Tryz.func4, Tryz.ntmps4
  go_upto_region 1 with fail
  generalize (w.alloc (Obj.cells #[.int .i64 G.start, .slice A G.names.length c, .slice A' G.rules.length c'] 25)).alloc (Obj.cells #[.int .i64 C.root, .slice An C.nodes.length cn] 28) = w0 at b0 b2 hb0 ⊢
  obtain ⟨bg, hbg⟩ : ∃ bg, bg = w.heap.size := ⟨_, rfl⟩
  obtain ⟨bc, hbc⟩ : ∃ bc, bc = w.heap.size + 1 := ⟨_, rfl⟩
  rw [← hbg] at b0
  rw [← hbc] at b2
  rw [← hbc, ← hbg]
  have HB0 := Lib.hid hb0
  have HG := Lib.hid b0
  have HCT := Lib.hid b2
  clear b0 b2 hb0 hbg hbc
  go_upto_region 3 with (first | (go_at_call 16; refine (awake_any _).mono ?_; rintro e w1 ⟨rfl, hb1⟩; have HB1 := Lib.hid hb1; clear hb1) | fail)
  have x0 : w1.cell? ⟨bg, 0, none⟩ = some (.int .i64 G.start) := blk_cell (blk_below HG.out HB1.out) 0
  have x1 : w1.cell? ⟨bg, 1, none⟩ = some (.slice A G.names.length c) := blk_cell (blk_below HG.out HB1.out) 1
  have x2 : w1.cell? ⟨bg, 2, none⟩ = some (.slice A' G.rules.length c') := blk_cell (blk_below HG.out HB1.out) 2
  have y0 : w1.cell? ⟨bc, 0, none⟩ = some (.int .i64 C.root) := blk_cell (blk_below HCT.out HB1.out) 0
  have y1 : w1.cell? ⟨bc, 1, none⟩ = some (.slice An C.nodes.length cn) := blk_cell (blk_below HCT.out HB1.out) 1
  have HB01 := Lib.hid (below_trans HB0.out HB1.out)
  have HCK := Lib.hid (check_any G W C (w := w1) hWs n1 n2 (N3.out.mono HB01.out) n4 n5 (N6.out.mono HB01.out) m1 m2 (M3.out.mono HB01.out) HWF.out)
  go_wp2_with (first | (go_at_call 11; refine HCK.out.mono ?_; clear x0 x1 x2 y0 y1) | fail)
  rintro e w2 ⟨hb2, ⟨-, rfl⟩ | ⟨-, -, rfl⟩ | ⟨hna, htk, rfl⟩⟩
  · have HB2 := Lib.hid hb2
    clear hb2
    go_wp2_with (first | (go_at_call 13; refine (num_any _ _).mono ?_; rintro e w3 ⟨rfl, rfl⟩) | fail)
    go_ret
    exact ⟨rfl, below_trans HB01.out HB2.out⟩
  · have HB2 := Lib.hid hb2
    clear hb2
    go_wp2_with (first | (go_at_call 13; refine (num_any _ _).mono ?_; rintro e w3 ⟨rfl, rfl⟩) | fail)
    go_ret
    exact ⟨rfl, below_trans HB01.out HB2.out⟩
  · have HB2 := Lib.hid (below_trans HB01.out hb2)
    have HG2 := Lib.hid (blk_below HG.out (below_trans HB1.out hb2))
    have HC2 := Lib.hid (blk_below HCT.out (below_trans HB1.out hb2))
    obtain ⟨hm, hN, hW⟩ := asked_parts hna
    have HTK := Lib.hid htk
    have x0 : w2.cell? ⟨bg, 0, none⟩ = some (.int .i64 G.start) := blk_cell HG2.out 0
    have x1 : w2.cell? ⟨bg, 1, none⟩ = some (.slice A G.names.length c) := blk_cell HG2.out 1
    have x2 : w2.cell? ⟨bg, 2, none⟩ = some (.slice A' G.rules.length c') := blk_cell HG2.out 2
    have HNW := Lib.hid (rnew_good (w := w2) (A := A) (c := c) (c' := c') hm hN hW (N6.out.mono HB2.out) (fun w3 h3 => rmay_any (N3.out.mono (below_trans HB2.out h3)) (N6.out.mono (below_trans HB2.out h3)) hm))
    obtain ⟨n, y, hr, hy, hsg, hky⟩ := taken_root htk
    rw [hsg]
    obtain ⟨sg, hsg2⟩ : ∃ sg, sg = y.sign := ⟨_, rfl⟩
    rw [← hsg2]
    have HSG := Lib.hid hsg2
    have HR0 := Lib.hid hr
    have HY0 := Lib.hid hy
    have HKY := Lib.hid hky
    clear hb2 hna htk hsg hsg2 hr hy hky
    go_upto_region 7 with (first
      | (go_at_call 13; refine (num_any _ _).mono ?_; rintro e w3 ⟨rfl, rfl⟩)
      | (go_at_call 17; refine HNW.out.mono ?_; rintro e w3 ⟨t, T, st, rfl, rfl, hF, hT, hA, hn, hp, hR, rfl, hb3⟩; have F := hF; have HT := Lib.hid hT; have HA := Lib.hid hA; have HN := Lib.hid hn; have HP := Lib.hid hp; have HR := Lib.hid hR; have HB3 := Lib.hid hb3; clear hF hT hA hn hp hR hb3)
      | fail)
    have HBB := Lib.hid (below_trans HB2.out HB3.out)
    obtain ⟨nd, A1, c1, eA, hNd⟩ := nod_at (M3.out.mono HBB.out) HY0.out
    have z0 : w3.cell? ⟨bc, 0, none⟩ = some (.int .i64 (n : Int)) := by rw [← HR0.out]; exact blk_cell (blk_below HC2.out HB3.out) 0
    have z1 : w3.cell? ⟨bc, 1, none⟩ = some (.slice An C.nodes.length cn) := blk_cell (blk_below HC2.out HB3.out) 1
    rw [eA] at z1
    have s0 := hNd.c0
    rw [← HSG.out] at s0
    have hnl := (List.getElem?_eq_some_iff.1 HY0.out).1
    have bn : (n : Int) < C.nodes.length := by omega
    have dn1 : decide ((n : Int) < 0) = false := by simp
    have dn2 : decide ((C.nodes.length : Int) ≤ (n : Int)) = false := by simp; omega
    have dn3 : decide (C.nodes.length ≤ n) = false := by simp; omega
    have dne : (sg != sg) = false := by simp
    obtain ⟨FL, hFL⟩ := lev_exists (edgesOf_in (mayG hm)) hN
    have HNT := Lib.hid (nodes_true HT.out (mayG hm) (lev := levOf t.G.names.length FL) (C := C) (fun e he => by obtain ⟨e1, e2⟩ := edgesOf_in (mayG hm) e he; rw [levOf_getD e1, levOf_getD e2]; exact hFL.edge e he) (taken_nodes HTK.out))
    have HYM := Lib.hid (List.mem_of_getElem? HY0.out)
    subst eA
    clear hNd hnl x0 x1 x2
    go_wp2_with fail
    clear z0 z1 s0 bn dne dn1 dn2 dn3
    go_loopw [11] (fun cnt wi => TrRel w3 C.nodes.length cnt wi) (fun cnt _ => C.nodes.length - (intOf cnt).toNat)
    case atStart => exact ⟨0, rfl, Nat.zero_le _, below_refl _⟩
    case round =>
      obtain ⟨k, rfl, hk, hb⟩ := hrel
      have HB := Lib.hid hb
      have z1 : wr.cell? ⟨bc, 1, none⟩ = some (.slice (some nd) C.nodes.length cn) := blk_cell (blk_below (blk_below HC2.out HB3.out) hb) 1
      clear hb
      by_cases hlt : k < C.nodes.length
      · obtain ⟨x, hx⟩ : ∃ x, C.nodes[k]? = some x := ⟨_, List.getElem?_eq_getElem hlt⟩
        obtain ⟨nd', A2, c2, eA, hNd⟩ := nod_at (M3.out.mono (below_trans HBB.out HB.out)) hx
        cases eA
        have b1 : (k : Int) < C.nodes.length := by omega
        have k0 := hNd.c0
        have k1 := hNd.c1
        have k2 := hNd.c2
        have k3 := hNd.c3
        have k4 := hNd.c4
        have k5 := hNd.c5
        have k6 := hNd.c6
        have k7 := hNd.c7
        have k8 := hNd.c8
        have k9 := hNd.c9
        have HXM := Lib.hid (List.mem_of_getElem? hx)
        have HND := Lib.hid (taken_nodes HTK.out x HXM.out)
        obtain ⟨sx, hsx⟩ : ∃ sx, sx = x.sign := ⟨_, rfl⟩
        rw [← hsx] at k0
        have HSX := Lib.hid hsx
        obtain ⟨o, ho⟩ : ∃ o, o = Obj.cells #[.bool sx, .int .i64 x.kind, .int .i64 x.name, .int .i64 x.plc.rule, .int .i64 x.plc.conj, .int .i64 x.plc.pos, .int .i64 x.i, .int .i64 x.j, .int .i64 x.rank, .slice A2 x.picks.length c2] 48 := ⟨_, rfl⟩
        have hb4 := below_alloc' (below_refl wr) o
        have B4 := heap_alloc_new wr o
        have HB4 := Lib.hid (below_trans HB.out hb4)
        obtain ⟨bx, hbx⟩ : ∃ bx, bx = wr.heap.size := ⟨_, rfl⟩
        rw [ho] at B4 HB4
        have HO4 := Lib.hid B4
        have dsx : (sx != sx) = false := by simp
        clear hx hNd hsx ho hb4 B4
        go_upto_region 13 with fail
        rw [← hbx] at HO4 ⊢
        clear hbx k0 k1 k2 k3 k4 k5 k6 k7 k8 k9 z1
        generalize wr.alloc (Obj.cells #[.bool sx, .int .i64 x.kind, .int .i64 x.name, .int .i64 x.plc.rule, .int .i64 x.plc.conj, .int .i64 x.plc.pos, .int .i64 x.i, .int .i64 x.j, .int .i64 x.rank, .slice A2 x.picks.length c2] 48) = w4 at HO4 HB4 ⊢
        have HA4 := Lib.hid (HA.out.below HB4.out)
        have HC1 := Lib.hid (rrestHas_any HA4.out F (HP.out.below HB4.out) x.plc.rule x.plc.conj x.plc.pos x.i x.j)
        have HC2' := Lib.hid (fun w5 (h5 : Below w4.heap.size w4 w5) => rhas_any (HA4.out.below h5) F ((HN.out.below HB4.out).below h5) x.name x.i x.j)
        by_cases hk0 : x.kind = 0
        · have dk : (x.kind == 0) = true := by simp [hk0]
          have HAN := Lib.hid (show decide (0 < t.rank st.1 x.name x.i x.j) = sx by rw [HSX.out]; exact ans_name HR.out HNT.out HXM.out HND.out hk0)
          rw [HAN.out] at HC2'
          have u3 : w4.cell? ⟨bx, 3, none⟩ = some (.int .i64 x.plc.rule) := blk_cell HO4.out 3
          have u4 : w4.cell? ⟨bx, 4, none⟩ = some (.int .i64 x.plc.conj) := blk_cell HO4.out 4
          have u5 : w4.cell? ⟨bx, 5, none⟩ = some (.int .i64 x.plc.pos) := blk_cell HO4.out 5
          have u6 : w4.cell? ⟨bx, 6, none⟩ = some (.int .i64 x.i) := blk_cell HO4.out 6
          have u7 : w4.cell? ⟨bx, 7, none⟩ = some (.int .i64 x.j) := blk_cell HO4.out 7
          clear hk0
          go_wp2_with (first
            | (go_at_call 18; refine HC1.out.mono ?_; rintro e w5 ⟨rfl, hb5⟩; have HB5 := Lib.hid hb5; have ho5 := blk_below HO4.out hb5; have v0 : w5.cell? ⟨bx, 0, none⟩ = some (.bool sx) := blk_cell ho5 0; have v1 : w5.cell? ⟨bx, 1, none⟩ = some (.int .i64 x.kind) := blk_cell ho5 1; have v2 : w5.cell? ⟨bx, 2, none⟩ = some (.int .i64 x.name) := blk_cell ho5 2; have v6 : w5.cell? ⟨bx, 6, none⟩ = some (.int .i64 x.i) := blk_cell ho5 6; have v7 : w5.cell? ⟨bx, 7, none⟩ = some (.int .i64 x.j) := blk_cell ho5 7; have HO5 := Lib.hid ho5; clear hb5 ho5)
            | (go_at_call 19; refine (HC2'.out w5 HB5.out).mono ?_; rintro e w6 ⟨rfl, hb6⟩; have HB6 := Lib.hid (below_trans HB5.out hb6); have y0 : w6.cell? ⟨bx, 0, none⟩ = some (.bool sx) := blk_cell (blk_below HO5.out hb6) 0; clear hb6)
            | fail)
          go_roundw
          case rel => exact ⟨k + 1, by go_num, by omega, below_trans HB4.out HB6.out⟩
          case measure => simp [intOf]; omega
        · have dk : (x.kind == 0) = false := by simp [hk0]
          have HAN := Lib.hid (show decide (0 < t.rrank st.2 x.plc.rule x.plc.conj x.plc.pos x.i x.j) = sx by rw [HSX.out]; exact ans_rest HR.out HNT.out HXM.out HND.out hk0)
          rw [HAN.out] at HC1
          have u3 : w4.cell? ⟨bx, 3, none⟩ = some (.int .i64 x.plc.rule) := blk_cell HO4.out 3
          have u4 : w4.cell? ⟨bx, 4, none⟩ = some (.int .i64 x.plc.conj) := blk_cell HO4.out 4
          have u5 : w4.cell? ⟨bx, 5, none⟩ = some (.int .i64 x.plc.pos) := blk_cell HO4.out 5
          have u6 : w4.cell? ⟨bx, 6, none⟩ = some (.int .i64 x.i) := blk_cell HO4.out 6
          have u7 : w4.cell? ⟨bx, 7, none⟩ = some (.int .i64 x.j) := blk_cell HO4.out 7
          clear hk0
          go_wp2_with (first
            | (go_at_call 18; refine HC1.out.mono ?_; rintro e w5 ⟨rfl, hb5⟩; have HB5 := Lib.hid hb5; have ho5 := blk_below HO4.out hb5; have v0 : w5.cell? ⟨bx, 0, none⟩ = some (.bool sx) := blk_cell ho5 0; have v1 : w5.cell? ⟨bx, 1, none⟩ = some (.int .i64 x.kind) := blk_cell ho5 1; clear hb5 ho5)
            | fail)
          go_roundw
          case rel => exact ⟨k + 1, by go_num, by omega, below_trans HB4.out HB5.out⟩
          case measure => simp [intOf]; omega
      · have b1 : ¬ ((k : Int) < C.nodes.length) := by omega
        have u0 : wr.cell? ⟨bg, 0, none⟩ = some (.int .i64 t.G.start) := blk_cell (blk_below (blk_below HG2.out HB3.out) HB.out) 0
        have HM := Lib.hid (mayG hm)
        obtain ⟨s0, hs0⟩ : ∃ s0 : Nat, t.G.start = (s0 : Int) := ⟨t.G.start.toNat, by have := HM.out.start0; omega⟩
        rw [hs0] at u0
        have hsl : s0 < t.G.names.length := by have := HM.out.start1; omega
        have HCF := Lib.hid (rhas_any (HA.out.below HB.out) F (HN.out.below HB.out) s0 0 t.W.size)
        have HAN := Lib.hid (show decide (0 < t.rank st.1 (s0 : Int) 0 t.W.size) = sg by
          rw [rrank_at hsl (Int.le_refl _) (by omega) (Int.le_refl _), HR.out.n s0 0 t.W.size hsl (Int.le_refl _) (by omega) (Int.le_refl _), HSG.out]
          have h1 := HNT.out y HYM.out
          rw [HKY.out, kyIn_name, hs0, Int.toNat_natCast] at h1
          rw [Bool.eq_iff_iff, decide_eq_true_eq]
          exact h1)
        rw [HAN.out] at HCF
        have deq : (sg == sg) = true := by simp
        clear hs0 hsl
        go_wp2_with (first
          | (go_at_call 19; refine HCF.out.mono ?_; rintro e w6 ⟨rfl, hb6⟩; have HB6 := Lib.hid (below_trans HB.out hb6); clear hb6)
          | fail)
        go_ret
        exact ⟨rfl, below_trans HBB.out HB6.out⟩
end Go.Proofs.YtfmfoiecphhhiaaGreat
