/-
  F7: the walk of deps.Edges, given what slices.SortedFunc answers.
-/
import Derived.Test.YtmccdakmdcdbeaaF6
import Derived.Test.YtmccdakmdcdbeaaW4
set_option linter.unusedSimpArgs false
set_option linter.unusedVariables false
namespace Go.Proofs.Ytmccdakmdcdbeaa
open Go.RowKit Go.Sort Go.Maps

set_option maxRecDepth 100000 in
set_option maxHeartbeats 4000000 in
theorem edges_of {w : World} (G : Gram) {A A' : Option Addr} {c c' : Nat} (n1 : G.names.length ≤ c) (n2 : c ≤ 9223372036854775807) (n3 : Rd.str.C w A G.names) (n4 : G.rules.length ≤ c') (n5 : c' ≤ 9223372036854775807) (n6 : rulRd.C w A' G.rules)
    (hSF : ∀ (Bm b : Nat) (L0 : List Edg) (w : World), Small L0 → Bm < w.heap.size → w.cell? ⟨Bm, 0, none⟩ = some (.map (some b)) → EMap w b L0 → L0.length ≤ 1000000 →
      Calls Try.prog 45 #[.func (.func 57) #[] #[.pointer (some ⟨Bm, 0, none⟩)], .func (.func 47) #[] #[]] w (SortedPost w L0)) :
    Calls Try.prog 37 #[.agg #[.int .i64 G.start, .slice A G.names.length c, .slice A' G.rules.length c']] w (EdgesPost w G) := by
  have HSF := Lib.hid hSF
  clear hSF
  have hmm := @run_makeMap Try.prog
  have hb0 : Below w.heap.size w (w.alloc (Obj.cells #[Value.int .i64 G.start, Value.slice A G.names.length c, Value.slice A' G.rules.length c'] 25)) := below_alloc' (below_refl w) _
  have B0 := heap_alloc_new w (Obj.cells #[Value.int .i64 G.start, Value.slice A G.names.length c, Value.slice A' G.rules.length c'] 25)
  have CM := Lib.hid (may_any (G := G) n2 n1 (n3.mono hb0) n4 n5 (n6.mono hb0))
  have N6 := Lib.hid (n6.mono hb0)
  clear n6 n3
  cases hm : mayB G with
  | false =>
    rw [hm] at CM
    have HM := Lib.hid hm
    clear hm hmm
    go_enter Try.func37, Try.ntmps37
    go_wp2_with fail
    refine CM.out.mono ?_
    rintro e w1 ⟨rfl, hb1⟩
    have HB1 := Lib.hid (below_then hb0 hb1)
    clear hb1 hb0 B0
    go_wp2_with fail
    go_ret2
    exact ⟨HB1.out, .inl ⟨HM.out, rfl⟩⟩
  | true =>
    rw [hm] at CM
    have M := mayG hm
    have HM := Lib.hid hm
    clear hm
    go_enter Try.func37, Try.ntmps37
    go_wp2_with fail
    refine CM.out.mono ?_
    clear CM
    generalize w.alloc (Obj.cells #[Value.int .i64 G.start, Value.slice A G.names.length c, Value.slice A' G.rules.length c'] 25) = w0 at hb0 B0 N6 ⊢
    rintro e w1 ⟨rfl, hb1⟩
    have HB1 := Lib.hid (below_then hb0 hb1)
    have N1 := Lib.hid (N6.out.mono hb1)
    have b1 := blk_below B0 hb1
    have z2 : w1.cell? ⟨w.heap.size, 2, none⟩ = some (.slice A' G.rules.length c') := blk_cell b1 2
    have hl1 := blk_lt b1
    clear hb1 hb0 B0 b1 N6
    go_wp2_with fail
    obtain ⟨b, hbE⟩ : ∃ b, b = w1.heap.size := ⟨_, rfl⟩
    have hm0 : EdIn w1 (w1.alloc (Obj.map #[] 0)) (w1.alloc (Obj.map #[] 0)) b (L1 G 0) (512 * 0) := ⟨by rw [hbE]; exact World.ownsMap_made _ _ _ _, by simp [L1], below_alloc' (below_refl _) _, Upd.refl _ _⟩
    have hwX : b < (w1.alloc (Obj.map #[] 0)).heap.size := by rw [hbE]; simp
    have hbw : w1.heap.size ≤ b := Nat.le_of_eq hbE.symm
    rw [← hbE]
    generalize w1.alloc (Obj.map #[] 0) = wX at hm0 hwX ⊢
    have HBE := Lib.hid hbE
    clear hbE hmm hl1 z2
    go_loopw [18] (fun cnt wr => EdRel1 w1 wX G b cnt wr) (fun cnt _ => G.rules.length - (intOf cnt).toNat)
    case atStart => exact ⟨0, rfl, Nat.zero_le _, hm0⟩
    case round =>
      clear hm0
      obtain ⟨r, rfl, hr, hin⟩ := hrel
      have HIN := Lib.hid hin
      clear hin
      by_cases hltr : r < G.rules.length
      · obtain ⟨x, hx⟩ : ∃ x, G.rules[r]? = some x := ⟨_, List.getElem?_eq_getElem hltr⟩
        obtain ⟨ad, Ac, cc, eA, -, q0, q1, l3, l4, hCC⟩ := rul_at N1.out hx
        subst eA
        have HCC := Lib.hid hCC
        have q0 := below_cell HIN.out.below q0
        have q1 := below_cell HIN.out.below q1
        have hki : (r : Int) < G.rules.length := by omega
        have hcj := (M.conj r x hx).2
        have hhd := M.head r x hx
        have h64 := M.K64
        have HX := Lib.hid hx
        have hba := below_alloc' (below_refl wr) (Obj.cells #[Value.int .i64 x.head, Value.slice Ac x.conj.length cc] 53)
        have B6 := heap_alloc_new wr (Obj.cells #[Value.int .i64 x.head, Value.slice Ac x.conj.length cc] 53)
        have HI6 := Lib.hid (HIN.out.below' hba)
        clear hx hCC
        go_wp2_with fail
        clear q0 q1
        obtain ⟨p6, hp6⟩ : ∃ p6, p6 = wr.heap.size := ⟨_, rfl⟩
        have hbp6 : b < p6 := by have h1 := HIN.out.upd.size; omega
        rw [← hp6] at B6 ⊢
        generalize wr.alloc (Obj.cells #[Value.int .i64 x.head, Value.slice Ac x.conj.length cc] 53) = w6 at hba B6 HI6 ⊢
        have HB6 := Lib.hid B6
        clear B6 hba hp6
        go_loopw [25] (fun cnt wr' => EdRel2 w1 w6 G b r x cnt wr') (fun cnt _ => x.conj.length - (intOf cnt).toNat)
        case atStart => exact ⟨0, rfl, Nat.zero_le _, by rw [L2_zero]; exact HI6.out.now⟩
        case round =>
          obtain ⟨k2, rfl, hk2, hin⟩ := hrel
          have HIN2 := Lib.hid hin
          clear hin
          have v1 := HIN2.out.upd.cell (blk_cell HB6.out 1) (by show ¬ p6 = b; omega)
          by_cases hlt2 : k2 < x.conj.length
          · obtain ⟨y, hy⟩ : ∃ y, x.conj[k2]? = some y := ⟨_, List.getElem?_eq_getElem hlt2⟩
            obtain ⟨ad2, As, cs, eA2, -, r0, r1, m3, m4, hSC⟩ := conj_at HCC.out hy
            subst eA2
            have HSC := Lib.hid hSC
            have r0 := below_cell HIN2.out.below r0
            have r1 := below_cell HIN2.out.below r1
            have hki2 : (k2 : Int) < x.conj.length := by omega
            have hsq := M.seq r x k2 y HX.out hy
            have HY := Lib.hid hy
            have hba := below_alloc' (below_refl wr) (Obj.cells #[Value.bool y.neg, Value.slice As y.seq.length cs] 48)
            have B8 := heap_alloc_new wr (Obj.cells #[Value.bool y.neg, Value.slice As y.seq.length cs] 48)
            have HI8 := Lib.hid (HIN2.out.below' hba)
            clear hy hSC
            go_wp2_with fail
            clear r0 r1 v1
            obtain ⟨p8, hp8⟩ : ∃ p8, p8 = wr.heap.size := ⟨_, rfl⟩
            have hlt6 : p6 < wr.heap.size := by have h1 := HIN2.out.upd.size; have h2 := blk_lt HB6.out; omega
            have hbp8 : b < p8 := by omega
            have hp68 : p6 < p8 := by omega
            rw [← hp8] at B8 ⊢
            generalize wr.alloc (Obj.cells #[Value.bool y.neg, Value.slice As y.seq.length cs] 48) = w8 at hba B8 HI8 ⊢
            have HB8 := Lib.hid B8
            clear B8 hba hp8 hlt6
            go_loopw [32] (fun cnt wr' => EdRel3 w1 w8 G b r x k2 y cnt wr') (fun cnt _ => y.seq.length - (intOf cnt).toNat)
            case atStart => exact ⟨0, rfl, Nat.zero_le _, by rw [L3_zero]; exact HI8.out.now⟩
            case round =>
              obtain ⟨k3, rfl, hk3, hin⟩ := hrel
              have HIN3 := Lib.hid hin
              clear hin
              by_cases hlt3 : k3 < y.seq.length
              · obtain ⟨s, hsy⟩ : ∃ s, y.seq[k3]? = some s := ⟨_, List.getElem?_eq_getElem hlt3⟩
                obtain ⟨ad3, eA3, -, s0, s1, s2⟩ := sym_at HSC.out hsy
                subst eA3
                have s0 := below_cell HIN3.out.below s0
                have s1 := below_cell HIN3.out.below s1
                have s2 := below_cell HIN3.out.below s2
                have hki3 : (k3 : Int) < y.seq.length := by omega
                have hsb := symB_lt (M.sym r x k2 y k3 s HX.out HY.out hsy) (by have := M.K1; omega)
                have hba := below_alloc' (below_refl wr) (Obj.cells #[Value.int .i64 s.name, Value.int .i64 s.lo, Value.int .i64 s.hi] 44)
                have HI10 := Lib.hid (HIN3.out.below' hba)
                have HS := Lib.hid hsy
                clear hsy
                by_cases h0 : 0 ≤ s.name
                · have d0 : decide (0 ≤ s.name) = true := by simp [h0]
                  have u6 := below_cell hba (HIN3.out.upd.cell (HI8.out.upd.cell (blk_cell HB6.out 0) (by show ¬ p6 = b; omega)) (by show ¬ p6 = b; omega))
                  have u8 := below_cell hba (HIN3.out.upd.cell (blk_cell HB8.out 0) (by show ¬ p8 = b; omega))
                  have HK := Lib.hid (keyOf_parts (neg := y.neg) hhd.1 (by omega) h0 (by omega))
                  have hln := HI10.out.len
                  have hrl := M.rules
                  clear hba
                  go_wp2_with (at_mapUpdate; refine wpList_mapUpdate_own _ rfl _ _ _ 86 rfl 81 4 edgeLaw Try.underlying86 _ b _ _ rfl HI10.out.map (by unfold maxLen; omega) _ _ _ rfl rfl HK.out _ [] (plainElem_bool Try.underlying4 true) ?_; intro w9 hown9 hgrow9)
                  go_roundw
                  case rel => exact ⟨k3 + 1, by go_num, hlt3, by rw [L3_yes HS.out h0]; exact HI10.out.put hbw hgrow9 (EMap.put hown9)⟩
                  case measure => simp [intOf]; omega
                · have d0 : decide (0 ≤ s.name) = false := by simp [h0]
                  go_wp2_with fail
                  go_roundw
                  case rel => exact ⟨k3 + 1, by go_num, hlt3, by rw [L3_no HS.out h0]; exact HI10.out.wider⟩
                  case measure => simp [intOf]; omega
              · have hke : k3 = y.seq.length := by omega
                go_wp2_with fail
                go_roundw
                case rel =>
                  refine ⟨k2 + 1, by go_num, hlt2, ?_⟩
                  have h1 := HIN3.out.of HI8.out.upd
                  rw [hke, L3_all HY.out] at h1
                  exact h1.le (by omega)
                case measure => simp [intOf]; omega
          · have hke : k2 = x.conj.length := by omega
            go_wp2_with fail
            go_roundw
            case rel =>
              refine ⟨r + 1, by go_num, hltr, ?_⟩
              have h1 := (HIN2.out.of HI6.out.upd)
              rw [hke, L2_all HX.out] at h1
              exact h1.le (by omega)
            case measure => simp [intOf]; omega
      · have hke : r = G.rules.length := by omega
        have hmap := HIN.out.map
        have hlen := HIN.out.len
        rw [hke, L1_all] at hmap hlen
        have hsm : Small (edgesOf G) := fun e he => by have := edgesIn_of M e he; have := M.K64; omega
        have hrl := M.rules
        have HB2 := Lib.hid HIN.out.below
        have hbA := below_alloc' (below_refl wr) (.cells #[.map (some b)] 86)
        have CS := Lib.hid (HSF.out wr.heap.size b (edgesOf G) (wr.alloc (.cells #[.map (some b)] 86)) hsm (by simp) (blk_cell (heap_alloc_new wr _) 0) (hmap.below hbA) (by omega))
        have HBA := Lib.hid hbA
        clear hmap HSF HIN hbA
        go_wp2_with (first
          | (go_at_call 46; refine (keys_any (some b) _).mono ?_; rintro e w' ⟨rfl, rfl⟩)
          | (go_at_call 45; refine CS.out.mono ?_; rintro e w' ⟨Ax, cx, xs, rfl, hCx, hxs, hxl, hbx⟩; have HBX := Lib.hid hbx; have HCX := Lib.hid hCx; have HXS := Lib.hid hxs; clear hbx hCx hxs))
        go_ret2
        exact ⟨below_then HB1.out (below_then HB2.out (below_then HBA.out HBX.out)), .inr ⟨HM.out, Ax, cx, xs, rfl, HCX.out, by omega, HXS.out⟩⟩
end Go.Proofs.Ytmccdakmdcdbeaa
