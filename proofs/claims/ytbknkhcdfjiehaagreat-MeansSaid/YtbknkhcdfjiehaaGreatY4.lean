/-
  Y3: templeref6.Places.
  Y4: the meaning's table and the document's table of one grammar and text hold the same ranks.
-/
import Derived.Test.YtbknkhcdfjiehaaGreatA3
import Derived.Test.YtbknkhcdfjiehaaGreatW3
import Derived.Test.YtbknkhcdfjiehaaGreatU1
import Derived.Test.YtbknkhcdfjiehaaGreatT5
import Derived.Test.YtbknkhcdfjiehaaGreatP7
import Derived.Test.YtbknkhcdfjiehaaGreatN23
set_option linter.unusedSimpArgs false
set_option linter.unusedVariables false
namespace Go.Proofs.YtbknkhcdfjiehaaGreat
open Go.RowKit

/-- Three numbers: a place. -/
def plRd : Rd (Nat × Nat × Nat) where
  sz := 3
  K _ p cs := cs = [.int .i64 p.1, .int .i64 p.2.1, .int .i64 p.2.2]
  len h := by rw [h]; rfl
  one h u hu := by
    rw [h] at hu
    rcases List.mem_cons.1 hu with rfl | hu
    · rfl
    · rcases List.mem_cons.1 hu with rfl | hu
      · rfl
      · rw [List.mem_singleton.1 hu]; rfl
  mono _ h := h
theorem flat_pl : Flat plRd := fun _ _ _ _ h => h
theorem infoPlc : (Tryz.prog.info? 27).map (fun i => (i.zero, i.size, i.bytes)) = some (some (.agg #[(.int .i64 0), (.int .i64 0), (.int .i64 0)]), 3, 24) := by kernel_rfl
theorem pl_at {w : World} {A : Option Addr} {xs : List (Nat × Nat × Nat)} (h : plRd.C w A xs) {i : Nat} {x : Nat × Nat × Nat} (hx : xs[i]? = some x) :
    ∃ ad, A = some ad ∧ ad.block < w.heap.size ∧ w.cell? (ad.add (i * 3)) = some (.int .i64 x.1) ∧
      w.cell? ⟨(ad.add (i * 3)).block, (ad.add (i * 3)).off + 1, none⟩ = some (.int .i64 x.2.1) ∧
      w.cell? ⟨(ad.add (i * 3)).block, (ad.add (i * 3)).off + 2, none⟩ = some (.int .i64 x.2.2) := by
  obtain ⟨ad, cs, hA, rfl, hc⟩ := h i x hx
  have h0 := hc 0 _ rfl
  have h1 := hc 1 _ rfl
  have h2 := hc 2 _ rfl
  rw [show plRd.sz = 3 from rfl] at h0 h1 h2
  rw [add_off _ _ _ (by omega)] at h1 h2
  refine ⟨ad, hA, ?_, by simpa using h0, h1, h2⟩
  have := World.block_lt_of_cell? w _ h0
  rwa [show (ad.add (i * 3 + 0)).block = ad.block from by unfold Addr.add; split <;> rfl] at this
/-- A place of the grammar. -/
def InPl (G : Gram) (p : Nat × Nat × Nat) : Prop := ∃ x y, G.rules[p.1]? = some x ∧ x.conj[p.2.1]? = some y ∧ p.2.2 ≤ y.seq.length
def PlSt (w : World) (G : Gram) (n : Nat) (v : Value) (wr : World) : Prop := ∃ ps : List (Nat × Nat × Nat), ps.length = n ∧ Own plRd 27 w.heap.size wr v ps ∧ (∀ p ∈ ps, InPl G p) ∧ Below w.heap.size w wr
def PlL1 (w : World) (G : Gram) (v cnt : Value) (wr : World) : Prop := ∃ i : Nat, cnt = .int .i64 i ∧ i ≤ G.rules.length ∧ PlSt w G (rSum G.rules i) v wr
def PlL2 (w : World) (G : Gram) (i : Nat) (x : Rul) (v cnt : Value) (wr : World) : Prop := ∃ j : Nat, cnt = .int .i64 j ∧ j ≤ x.conj.length ∧ PlSt w G (rSum G.rules i + cSum x.conj j) v wr
def PlL3 (w : World) (G : Gram) (n m : Nat) (v cnt : Value) (wr : World) : Prop := ∃ k : Nat, cnt = .int .i64 k ∧ k ≤ m ∧ PlSt w G (n + k) v wr
def PlPost (w : World) (G : Gram) (e : Ending) (w' : World) : Prop := ∃ (A : Option Addr) (c : Nat) (ps : List (Nat × Nat × Nat)), e = .returned (.tuple #[.slice A ps.length c, .int .i64 0]) ∧ plRd.C w' A ps ∧ ps.length ≤ 100000 ∧ (∀ p ∈ ps, InPl G p) ∧ Below w.heap.size w w'
set_option maxRecDepth 100000 in
set_option maxHeartbeats 8000000 in
theorem places_any {w : World} (G : Gram) {A A' : Option Addr} {c c' : Nat} (hm : mayB G = true) (n3 : Rd.str.C w A G.names) (n6 : rulRd.C w A' G.rules) :
    Calls Tryz.prog 11 #[.agg #[.int .i64 G.start, .slice A G.names.length c, .slice A' G.rules.length c']] w (PlPost w G) := by
  have hM := mayG hm
  have hK := hM.K64
  have hRL := hM.rules
  have hQ := (gfits_of (lev := List.replicate G.names.length 0) hM (by simp)).Q
  have hb0 : Below w.heap.size w (w.alloc (Obj.cells #[Value.int .i64 G.start, Value.slice A G.names.length c, Value.slice A' G.rules.length c'] 25)) := below_alloc' (below_refl w) _
  have B0 := heap_alloc_new w (Obj.cells #[Value.int .i64 G.start, Value.slice A G.names.length c, Value.slice A' G.rules.length c'] 25)
  have hMay := rmay_all (w := w.alloc (Obj.cells #[Value.int .i64 G.start, Value.slice A G.names.length c, Value.slice A' G.rules.length c'] 25)) (G := G) (A := A) (A' := A') (c := c) (c' := c') (by omega) (by omega) (n3.mono hb0) (n6.mono hb0)
  rw [hm] at hMay
  have HMAY := Lib.hid hMay
  have N6 := Lib.hid n6
  obtain ⟨bg, hbg⟩ : ∃ bg, bg = w.heap.size := ⟨_, rfl⟩
  have HG := Lib.hid B0
  have HB0 := Lib.hid hb0
  clear n3 n6 hb0 B0 hMay
  go_enter Tryz.func11, Tryz.ntmps11
  go_upto_region 1 with fail
  rw [← hbg] at HG ⊢
  clear hbg
  generalize w.alloc (Obj.cells #[Value.int .i64 G.start, Value.slice A G.names.length c, Value.slice A' G.rules.length c'] 25) = w0 at HG HB0 HMAY ⊢
  have x0 : w0.cell? ⟨bg, 0, none⟩ = some (.int .i64 G.start) := blk_cell HG.out 0
  have x1 : w0.cell? ⟨bg, 1, none⟩ = some (.slice A G.names.length c) := blk_cell HG.out 1
  have x2 : w0.cell? ⟨bg, 2, none⟩ = some (.slice A' G.rules.length c') := blk_cell HG.out 2
  go_wp2_with (first | (go_at_call 31; refine HMAY.out.mono ?_; rintro e w1 ⟨rfl, hb1⟩; have HB1 := Lib.hid (below_trans HB0.out hb1); have HG1 := Lib.hid (blk_below HG.out hb1); clear hb1 x0 x1 x2) | fail)
  go_loopw [4, 5] (fun v cnt wr => PlL1 w1 G v cnt wr) (fun _ cnt _ => G.rules.length - (intOf cnt).toNat)
  case atStart => exact ⟨0, rfl, Nat.zero_le _, [], rfl, Own.nil _ _ _ _, fun p hp => (by cases hp), below_refl _⟩
  case round =>
    obtain ⟨i, rfl, hi, hst⟩ := hrel
    have HST := Lib.hid hst
    have x2 : wr.cell? ⟨bg, 2, none⟩ = some (.slice A' G.rules.length c') := by
      obtain ⟨ps, -, -, -, hb⟩ := hst
      exact blk_cell (blk_below HG1.out hb) 2
    clear hst
    by_cases hlt : i < G.rules.length
    · obtain ⟨x, hx⟩ : ∃ x, G.rules[i]? = some x := ⟨_, List.getElem?_eq_getElem hlt⟩
      have hcl := hM.conj i x hx
      have b1 : (i : Int) < G.rules.length := by omega
      have HX := Lib.hid hx
      obtain ⟨ad, A1, c1, eA, -, -, q1, -, -, hCC⟩ := rul_at (N6.out.mono HB1.out) hx
      subst eA
      have Q1 := Lib.hid q1
      have HCC := Lib.hid hCC
      have HCELL := Lib.hid (fun (wz : World) (hz : Below w1.heap.size w1 wz) => show wz.cell? ⟨bg, 2, none⟩ = some (.slice (some ad) G.rules.length c') ∧ wz.cell? ⟨(ad.add (i * 2)).block, (ad.add (i * 2)).off + 1, none⟩ = some (.slice A1 x.conj.length c1) from ⟨blk_cell (blk_below HG1.out hz) 2, below_cell hz Q1.out⟩)
      clear hx q1 hCC
      go_wp2_with fail
      clear x2
      go_loopw [4, 6] (fun v cnt wi => PlL2 w1 G i x v cnt wi) (fun _ cnt _ => x.conj.length - (intOf cnt).toNat)
      case atStart => exact ⟨0, rfl, Nat.zero_le _, HST.out⟩
      case round =>
        clear HST
        obtain ⟨j, rfl, hj, hst⟩ := hrel
        have HST := Lib.hid hst
        obtain ⟨x2, q1⟩ := show _ ∧ _ from (by obtain ⟨ps, -, -, -, hb⟩ := hst; exact HCELL.out wr hb)
        clear hst
        by_cases hltj : j < x.conj.length
        · obtain ⟨y, hy⟩ : ∃ y, x.conj[j]? = some y := ⟨_, List.getElem?_eq_getElem hltj⟩
          have hsl := hM.seq i x j y HX.out hy
          have hql := q_lt (G := G) HX.out hy
          have b2 : (j : Int) < x.conj.length := by omega
          obtain ⟨ad2, A2, c2, eA2, -, -, q2, -, -, -⟩ := conj_at HCC.out hy
          subst eA2
          have HY := Lib.hid hy
          have HCELL2 := Lib.hid (fun (wz : World) (hz : Below w1.heap.size w1 wz) => show wz.cell? ⟨bg, 2, none⟩ = some (.slice (some ad) G.rules.length c') ∧ wz.cell? ⟨(ad.add (i * 2)).block, (ad.add (i * 2)).off + 1, none⟩ = some (.slice (some ad2) x.conj.length c1) ∧ wz.cell? ⟨(ad2.add (j * 2)).block, (ad2.add (j * 2)).off + 1, none⟩ = some (.slice A2 y.seq.length c2) from ⟨(HCELL.out wz hz).1, (HCELL.out wz hz).2, below_cell hz q2⟩)
          obtain ⟨n, hn⟩ : ∃ n, n = rSum G.rules i + cSum x.conj j := ⟨_, rfl⟩
          have HNX := Lib.hid (show n + (y.seq.length + 1) = rSum G.rules i + cSum x.conj (j + 1) by rw [cSum_succ hy, hn]; omega)
          rw [← hn] at hql HST
          have hqn : n + (y.seq.length + 1) ≤ 100000 := by omega
          clear hy q2 hn hql
          go_wp2_with fail
          clear x2 q1
          go_loopw [4, 7] (fun v cnt wi => PlL3 w1 G n (y.seq.length + 1) v cnt wi) (fun _ cnt _ => y.seq.length + 1 - (intOf cnt).toNat)
          case atStart => exact ⟨0, rfl, Nat.zero_le _, HST.out⟩
          case round =>
            clear HST
            obtain ⟨k, rfl, hk, ps, hpl, hO, hin, hb⟩ := hrel
            obtain ⟨x2, q1, q2⟩ := HCELL2.out wr hb
            obtain ⟨Av, kv, rfl, -, -, -⟩ := id hO.shape
            have HO := Lib.hid hO
            have HIN := Lib.hid hin
            have HB := Lib.hid hb
            have hwz := hb.size
            have HWZ := Lib.hid hwz
            clear hO hin hb
            by_cases hltk : k ≤ y.seq.length
            · have d1 : decide ((k : Int) ≤ (y.seq.length : Int)) = true := decide_eq_true (by omega)
              have hpl2 : ps.length ≤ 100000 := by omega
              have HPL := Lib.hid hpl
              clear hpl hwz
              go_wp2_with (first
                | (at_builtin; refine wpList_append_one (d := plRd) rfl (base := w1.heap.size) (.tmp 44) (.tmp 49) 40 27 _ 24 (by rfl) Tryz.underlying40 infoPlc (by rfl) (by decide) (v := .slice Av ps.length kv) (xs := ps) (by rfl) (HO.out.below (below_alloc' (below_refl _) _)) (i, j, k) #[.int .i64 (i : Nat), .int .i64 (j : Nat), .int .i64 (k : Nat)] (fun _ _ => rfl) (b := wr.heap.size) (c := 1) (by rfl) (heap_alloc_new wr _) (by omega) (by decide) (by have := HWZ.out; simp; omega) ?_; intro v5 w5 o5 g5 t5; have O5 := Lib.hid o5; have G5 := Lib.hid g5; clear o5 g5 t5)
                | fail)
              go_roundw
              case rel =>
                refine ⟨k + 1, by go_num, by omega, ps ++ [(i, j, k)], by simp [HPL.out]; omega, O5.out, fun p hp => ?_, below_grown (below_alloc' HB.out _) G5.out (fun b hb => (HO.out.base hb).1)⟩
                rcases List.mem_append.1 hp with hp | hp
                · exact HIN.out p hp
                · rw [List.mem_singleton.1 hp]
                  exact ⟨x, y, HX.out, HY.out, hltk⟩
              case measure => simp [intOf]; omega
            · have d1 : decide ((k : Int) ≤ (y.seq.length : Int)) = false := decide_eq_false (by omega)
              have hke : k = y.seq.length + 1 := by omega
              have HPL := Lib.hid hpl
              clear hpl hwz
              go_wp2_with fail
              go_roundw
              case rel => exact ⟨j + 1, by go_num, by omega, ps, by rw [HPL.out, hke, HNX.out], HO.out, HIN.out, HB.out⟩
              case measure => simp [intOf]; omega
        · have hje : j = x.conj.length := by omega
          subst hje
          have HRS := Lib.hid (rSum_succ HX.out)
          go_wp2_with fail
          go_roundw
          case rel => exact ⟨i + 1, by go_num, by omega, by rw [HRS.out]; exact HST.out⟩
          case measure => simp [intOf]; omega
    · have hie : i = G.rules.length := by omega
      subst hie
      obtain ⟨ps, hpl, hO, hin, hb⟩ := HST.out
      obtain ⟨Av, kv, rfl, -, -, hC⟩ := id hO.shape
      have HC := Lib.hid hC
      have HIN := Lib.hid hin
      have HB := Lib.hid (below_trans HB1.out hb)
      have HPL := Lib.hid (show ps.length ≤ 100000 by rw [hpl]; exact hQ)
      clear HST hO hin hb hC hpl
      go_wp2_with fail
      go_ret2
      exact ⟨_, _, ps, rfl, HC.out, HPL.out, HIN.out, HB.out⟩
end Go.Proofs.YtbknkhcdfjiehaaGreat

set_option linter.unusedSimpArgs false
set_option linter.unusedVariables false
namespace Go.Proofs.YtbknkhcdfjiehaaGreat
open Go.RowKit

theorem lev_syL {t : TS} (H : Law t) {r c : Nat} {x : Rul} {y : Conj} {s : Sym} (hx : t.G.rules[r]? = some x) (hy : x.conj[c]? = some y) (hs : s ∈ y.seq) : s.name < t.K ∧ (0 ≤ s.name → t.lev.getD s.name.toNat 0 + negI y.neg ≤ t.lev.getD x.head.toNat 0) := by
  obtain ⟨k, hk⟩ := List.mem_iff_getElem?.1 hs
  refine ⟨H.F.sym r x c y k s hx hy hk, fun h0 => ?_⟩
  exact H.good.edge ⟨x.head.toNat, s.name.toNat, y.neg⟩ (mem_edgesOf.2 ⟨x, List.mem_of_getElem? hx, y, List.mem_of_getElem? hy, s, hs, h0, rfl⟩)
theorem lev_lowL {t : TS} (H : Law t) {r : Nat} {x : Rul} (hx : t.G.rules[r]? = some x) : 0 ≤ t.lev.getD x.head.toNat 0 := by
  have h := H.F.head r x hx
  exact (H.good.low x.head.toNat (by unfold TS.K at h; omega)).1
theorem means_eq {t : TS} {fin : Rk × Rk} {r : RT} {T st : Rk × Rk} (H : Law t) (Z : Sol t fin) (hT : Truth r.G r.W T) (hR : RanksIn r T st) (hG : r.G = t.G) (hW : r.W = t.W) :
    (∀ k i j : Int, t.rank fin.1 k i j = r.rank st.1 k i j) ∧ (∀ a b c i j : Int, t.rrank fin.2 a b c i j = r.rrank st.2 a b c i j) := by
  have A := Truth.of_sol H Z
  have hT' : Truth t.G t.W T := by rw [← hG, ← hW]; exact hT
  have hV := View.eq A.view hT'.view (fun _ _ _ => rfl) (fun h => t.lev.getD h 0) (fun r x hx => lev_lowL H hx) (fun r x c y s hx hy hs => lev_syL H hx hy hs) t.K
  have hlow : ∀ h, h < t.K → t.lev.getD h 0 ≤ (t.K : Int) - 1 := fun h hh => by have := (H.good.low h hh).2; unfold TS.K at *; omega
  have hKK : t.K = t.G.names.length := rfl
  have hWs : r.W.size = t.W.size := by rw [hW]
  have hGn : r.G.names.length = t.G.names.length := by rw [hG]
  constructor
  · intro k i j
    unfold TS.rank RT.rank nameK spanB spanG
    by_cases hc : 0 ≤ i ∧ i ≤ j ∧ j ≤ t.W.size ∧ 0 ≤ k ∧ k < t.K
    · obtain ⟨i0, ij, j1, k0, k1⟩ := hc
      rw [if_pos (by simp; omega), if_pos (by simp; omega)]
      have hk : k.toNat < t.K := by omega
      rw [hV.1 k.toNat i j hk (hlow _ hk) i0 ij j1]
      exact (hR.n k.toNat i j (by omega) i0 ij (by omega)).symm
    · rw [if_neg (by simp; omega), if_neg (by simp; omega)]
  · intro a b c i j
    unfold TS.rrank RT.rrank spanB spanG
    rw [hG, hW]
    by_cases hp : placeB t.G.rules a b c = true
    · by_cases hc : 0 ≤ i ∧ i ≤ j ∧ j ≤ t.W.size
      · obtain ⟨i0, ij, j1⟩ := hc
        rw [if_pos (by rw [hp]; simp; omega)]
        obtain ⟨rn, cn, qn, x, y, rfl, rfl, rfl, hx, hy, hq⟩ := place_of hp
        rw [H.off]
        simp only [Int.toNat_natCast]
        have h1 := hV.2 rn x cn y qn i j hx hy (by omega) (fun s hs h0 => hlow _ (by have := (lev_syL H hx hy hs).1; omega)) i0 ij j1
        rw [if_pos (by rw [hp]; simp; omega)]
        rw [h1]
        have h2 := hR.p rn cn qn x y i j ⟨by rw [hG]; exact hx, hy, by omega⟩ i0 ij (by omega)
        rw [hG] at h2
        exact h2.symm
      · rw [if_neg (by simp; omega), if_neg (by simp; omega)]
    · have hp' : placeB t.G.rules a b c = false := by simpa using hp
      rw [hp']
      simp
end Go.Proofs.YtbknkhcdfjiehaaGreat
