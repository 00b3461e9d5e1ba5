/-
  Ig: tree.First.
-/
import Derived.Test.YtbidpeggdhkahaaIf
set_option linter.unusedSimpArgs false
set_option linter.unusedVariables false
namespace Go.Proofs.Ytbidpeggdhkahaa
open Go.RowKit

abbrev rootK (G : Gram) (W : ByteArray) : Ky := nameKey G.start 0 W.size
/-- What First answers, by the ranks R. -/
def FirstIs (R : Ky → Int) (G : Gram) (W : ByteArray) (e : Ending) (w' : World) : Prop :=
  (R (rootK G W) = 0 ∧ e = .returned (.tuple #[.slice none 0 0, .int .i64 2201])) ∨
  (0 < R (rootK G W) ∧ firstGo R G W 4098 [] [rootK G W] = none ∧ e = .returned (.tuple #[.slice none 0 0, .int .i64 2202])) ∨
  (0 < R (rootK G W) ∧ ∃ bs A c, firstGo R G W 4098 [] [rootK G W] = some bs ∧ e = .returned (.tuple #[.slice A bs.length c, .int .i64 0]) ∧ bs.length ≤ c ∧ c ≤ 9223372036854775807 ∧ brnRd.C w' A bs)
/-- What First leaves. -/
def FirstPost (w : World) (G : Gram) (W : ByteArray) (e : Ending) (w' : World) : Prop :=
  Below w.heap.size w w' ∧ (((RefG G ∨ 32 < W.size) ∧ e = .returned (.tuple #[.slice none 0 0, .int .i64 2200])) ∨
    (¬ RefG G ∧ W.size ≤ 32 ∧ ∃ (N : Rk) (P : Nat → Nat → Nat → Int → Int → Int), View G.rules G.names.length (fun i => btz W i) W.size N P ∧ FirstIs (rankV G W N P) G W e w'))
/-- The loop of 'First'. -/
def FiR (wL : World) (R : Ky → Int) (G : Gram) (W : ByteArray) (total : Option (List Brn)) (gg : Nat) (s9 s10 : Value) (wr : World) : Prop :=
  ∃ (os : List Brn) (st : List Ky), Own brnRd 41 wL.heap.size wr s9 os ∧ Own kyRd 59 wL.heap.size wr s10 st.reverse ∧ (∀ k ∈ st, k.kind = 0 ∧ 0 < R k) ∧ os.length + st.length ≤ 4096 ∧ firstGo R G W (4098 - os.length) os st = total ∧ 4098 - os.length ≤ gg ∧ Below wL.heap.size wL wr

set_option maxRecDepth 100000 in
set_option maxHeartbeats 8000000 in
/-- tree.First. -/
theorem first_any {w : World} (G : Gram) (W : ByteArray) {A A' : Option Addr} {c c' : Nat} (n1 : G.names.length ≤ c) (n2 : c ≤ 9223372036854775807) (n3 : Rd.str.C w A G.names) (n4 : G.rules.length ≤ c') (n5 : c' ≤ 9223372036854775807) (n6 : rulRd.C w A' G.rules) :
    Calls Try.prog 8 #[.agg #[.int .i64 G.start, .slice A G.names.length c, .slice A' G.rules.length c'], .string W] w (FirstPost w G W) := by
  have hb0 : Below w.heap.size w (w.alloc (grO G A A' c c')) := below_alloc' (below_refl w) _
  have B0 := heap_alloc_new w (grO G A A' c c')
  have N3 := Lib.hid (n3.mono hb0)
  have N6 := Lib.hid (n6.mono hb0)
  obtain ⟨gb, hgb⟩ : ∃ b, b = w.heap.size := ⟨_, rfl⟩
  clear n3 n6
  go_enter Try.func8, Try.ntmps8
  go_upto_region 1 with fail
  change Code.wp _ _ _ _ (w.alloc (grO G A A' c c'))
  rw [← hgb] at B0 ⊢
  generalize w.alloc (grO G A A' c c') = w0 at hb0 B0 N3 N6 ⊢
  have HB0 := Lib.hid hb0
  have CN := Lib.hid (wNew (gb := gb) G W false B0 n1 n2 N3.out n4 n5 N6.out)
  clear hb0 B0 hgb
  go_wp2_with fail
  refine CN.out.mono ?_
  rintro e w1 ⟨hb1, ⟨hr, p, rfl⟩ | ⟨hnr, hW, m, hmg, hmf, hmG, hmW, hM, F, rfl⟩⟩
  · have HB1 := Lib.hid hb1
    have HR := Lib.hid hr
    clear hb1 hr CN
    go_wp2_with fail
    refine bodyPost_ret (v := .tuple #[.slice none 0 0, .int .i64 2200]) (by simp [results, Try.results8, go_sem]) rfl ?_
    exact ⟨below_then HB0.out HB1.out, .inl ⟨HR.out, rfl⟩⟩
  · have HB1 := Lib.hid (below_then HB0.out hb1)
    have HNR := Lib.hid hnr
    have HWW := Lib.hid hW
    have HM := Lib.hid hM
    have HMF := Lib.hid hmf
    subst hmg
    subst hmG
    subst hmW
    have HV := Lib.hid F.view
    obtain ⟨root, hroot⟩ : ∃ q, q = rootK m.t.G m.t.W := ⟨_, rfl⟩
    have CR := Lib.hid (mkRoot hM)
    have HRK := Lib.hid (show ∀ W', Below w1.heap.size w1 W' → Calls Try.prog 14 #[.pointer (some ⟨m.p, 0, none⟩), kyV (nameKey m.t.G.start 0 m.t.W.size)] W' fun e w' => e = .returned (.int .i64 (m.R root)) ∧ Below W'.heap.size W' w' from fun W' hW' => by rw [hroot]; exact mkRank (hM.mono hW') F _)
    clear hb1 hnr hW hM hmf CN
    by_cases hz : m.R root = 0
    · have dz : (m.R root == 0) = true := by simpa using hz
      have HZ := Lib.hid hz
      have HRT := Lib.hid hroot
      clear hz hroot
      go_wp2_with (first
        | (go_at_call 15; refine CR.out.mono ?_; rintro e w2 ⟨rfl, hb2⟩; have HB2 := Lib.hid hb2; clear hb2)
        | (go_at_call 14; refine (HRK.out _ HB2.out).mono ?_; rintro e w3 ⟨rfl, hb3⟩; have HB3 := Lib.hid (below_then HB2.out hb3); clear hb3)
        | fail)
      refine bodyPost_ret (v := .tuple #[.slice none 0 0, .int .i64 2201]) (by simp [results, Try.results8, go_sem]) rfl ?_
      refine ⟨below_then HB1.out HB3.out, .inr ⟨HNR.out, HWW.out, _, _, HV.out, .inl ⟨?_, rfl⟩⟩⟩
      rw [← HRT.out]; exact HZ.out
    · have dz : (m.R root == 0) = false := by simpa using hz
      have hpos : 0 < m.R root := by have := F.ok.lo root; omega
      have HRT := Lib.hid hroot
      obtain ⟨total, htot⟩ : ∃ t, t = firstGo m.R m.t.G m.t.W 4098 [] [root] := ⟨_, rfl⟩
      have HTT := Lib.hid htot
      have hrk : root.kind = 0 := by rw [hroot]; rfl
      clear hz hroot htot
      go_upto_region 7 with (first
        | (go_at_call 15; refine CR.out.mono ?_; rintro e w2 ⟨rfl, hb2⟩; have HB2 := Lib.hid hb2; clear hb2)
        | (go_at_call 14; refine (HRK.out _ HB2.out).mono ?_; rintro e w3 ⟨rfl, hb3⟩; have HB3 := Lib.hid (below_then HB2.out hb3); clear hb3)
        | fail)
      obtain ⟨xb, hxb⟩ : ∃ b, b = w3.heap.size := ⟨_, rfl⟩
      have x9 := heap_alloc_new w3 (.cells #[.pointer (some ⟨m.g, 0, none⟩), .pointer (some ⟨m.p, 0, none⟩)] 63)
      have h9 : Below w3.heap.size w3 (w3.alloc (.cells #[.pointer (some ⟨m.g, 0, none⟩), .pointer (some ⟨m.p, 0, none⟩)] 63)) := below_alloc' (below_refl _) _
      rw [← hxb] at x9 ⊢
      generalize w3.alloc (.cells #[.pointer (some ⟨m.g, 0, none⟩), .pointer (some ⟨m.p, 0, none⟩)] 63) = w4 at x9 h9 ⊢
      have HG4 := Lib.hid (show GrAt w4 xb m from ⟨blk_cell x9 0, blk_cell x9 1⟩)
      have HB4 := Lib.hid (below_then HB1.out (below_then HB3.out h9))
      have HM4 := Lib.hid (HM.out.mono (below_then HB3.out h9))
      clear x9 h9 hxb HRK CR
      have CR4 := Lib.hid (mkRoot HM4.out)
      go_upto_region 9 with (first
        | (go_at_call 15; refine CR4.out.mono ?_; rintro e w5 ⟨he, hb5⟩; change e = .returned (.agg #[.int .i64 0, .int .i64 m.t.G.start, .int .i64 0, .int .i64 0, .int .i64 0, .int .i64 0, .int .i64 m.t.W.size]) at he; subst he; have HB5 := Lib.hid hb5; clear hb5)
        | fail)
      have HB5' := Lib.hid (below_then HB4.out HB5.out)
      have o0 := heap_alloc_new w5 (.cells #[.int .i64 0, .int .i64 m.t.G.start, .int .i64 0, .int .i64 0, .int .i64 0, .int .i64 0, .int .i64 m.t.W.size] 59)
      have h0 : Below w5.heap.size w5 (w5.alloc (.cells #[.int .i64 0, .int .i64 m.t.G.start, .int .i64 0, .int .i64 0, .int .i64 0, .int .i64 0, .int .i64 m.t.W.size] 59)) := below_alloc' (below_refl _) _
      have O0 := Lib.hid (own_new (d := kyRd) (base := w5.heap.size) (x := root) o0 (Nat.le_refl _) rfl (fun _ _ => by rw [HRT.out]; rfl))
      have H05 := Lib.hid h0
      have HM5 := Lib.hid (HM4.out.mono HB5.out)
      have HG5 := Lib.hid (HG4.out.mono HB5.out)
      clear o0 h0 CR4
      go_loopg [9, 10] 4098 (fun gg s9 s10 wr => FiR w5 m.R m.t.G m.t.W total gg s9 s10 wr)
      case atStart => exact ⟨[], [root], Own.nil _ _ _ _, O0.out, fun q hq => by simp at hq; rw [hq]; exact ⟨hrk, hpos⟩, by simp, HTT.out.symm, Nat.le_refl _, H05.out⟩
      case round =>
        clear O0 H05
        obtain ⟨os, st, ho, ht, hst, hlen, hgo, hgg, hb⟩ := hrel
        have HB := Lib.hid hb
        obtain ⟨n', hn'⟩ : ∃ n', 4098 - os.length = n' + 1 := ⟨4098 - os.length - 1, by omega⟩
        cases st with
        | nil =>
          obtain ⟨A9, c9, rfl, l9, l9', hC9⟩ := ho.shape
          obtain ⟨A8, c8, e8, -, -, -⟩ := ht.shape
          simp only [List.reverse_nil, List.length_nil] at e8
          subst e8
          have HTO := Lib.hid (show total = some os by rw [← hgo, hn']; rfl)
          have HC9 := Lib.hid hC9
          clear ho ht hst hgo hb hn' hC9
          go_wp2_with fail
          refine bodyPost_ret (v := .tuple #[.slice A9 os.length c9, .int .i64 0]) (by simp [results, Try.results8, go_sem]) rfl ?_
          refine ⟨below_then HB5'.out HB.out, .inr ⟨HNR.out, HWW.out, _, _, HV.out, .inr (.inr ⟨?_, os, A9, c9, ?_, rfl, l9, l9', HC9.out⟩)⟩⟩
          · rw [← HRT.out]; exact hpos
          · rw [← HRT.out]; exact HTT.out.symm.trans HTO.out
        | cons k st =>
          obtain ⟨hk0, hkp⟩ := hst k (by simp)
          rw [List.reverse_cons] at ht
          have hLn : (st.reverse ++ [k]).length = st.length + 1 := by simp
          obtain ⟨g, cap, ev, hgb, -, hcap, hcap'⟩ := ht.form (by rw [hLn]; omega)
          rw [hLn] at ev hcap
          subst ev
          obtain ⟨A9, c9, rfl, l9, l9', -⟩ := id ho.shape
          obtain ⟨A', c', e', -, -, hCt⟩ := ht.shape
          injection e' with e1 e3 e4
          clear e3 e4
          subst e1
          obtain ⟨adk, e2, K⟩ := ky_at hCt (i := st.length) (x := k) (by rw [List.getElem?_append_right (by simp)]; simp)
          injection e2 with e2
          subst e2
          rw [add_plain, Nat.zero_add] at K
          have kf0 : wr.cell? ⟨g, st.length * 7, none⟩ = some (.int .i64 k.kind) := K.c0
          have kf1 : wr.cell? ⟨g, st.length * 7 + 1, none⟩ = some (.int .i64 k.name) := K.c1
          have kf2 : wr.cell? ⟨g, st.length * 7 + 2, none⟩ = some (.int .i64 k.plc.rule) := K.c2
          have kf3 : wr.cell? ⟨g, st.length * 7 + 3, none⟩ = some (.int .i64 k.plc.conj) := K.c3
          have kf4 : wr.cell? ⟨g, st.length * 7 + 4, none⟩ = some (.int .i64 k.plc.pos) := K.c4
          have kf5 : wr.cell? ⟨g, st.length * 7 + 5, none⟩ = some (.int .i64 k.i) := K.c5
          have kf6 : wr.cell? ⟨g, st.length * 7 + 6, none⟩ = some (.int .i64 k.j) := K.c6
          obtain ⟨rr, xr, hxr, -, -, -, -, hben, hbk⟩ := beneath_ok F.ok hkp hk0
          have hkl : (beneathB m.R m.t.G m.t.W k).2.length ≤ 528 := by
            rw [hben]
            have h1 := parts_len (R := m.R) (G := m.t.G) (W := m.t.W) (xr := xr) (ks := conjKeys k rr xr) xr.conj.length
            have h2 : xr.conj.length ≤ 8 := (F.may.conj rr xr hxr).2
            show (partsTo m.R m.t.G m.t.W xr (conjKeys k rr xr) xr.conj.length).length ≤ 528
            omega
          have HST := Lib.hid (show ∀ q ∈ (beneathB m.R m.t.G m.t.W k).2 ++ st, q.kind = 0 ∧ 0 < m.R q from fun q hq => by
            rcases List.mem_append.1 hq with hq | hq
            · exact ⟨(hbk q hq).1, (hbk q hq).2.1⟩
            · exact hst q (by simp [hq]))
          have HGO := Lib.hid (show (if 4096 < (os ++ [brnOf m.R m.t.G m.t.W k]).length + ((beneathB m.R m.t.G m.t.W k).2 ++ st).length then none else firstGo m.R m.t.G m.t.W (4098 - (os.length + 1)) (os ++ [brnOf m.R m.t.G m.t.W k]) ((beneathB m.R m.t.G m.t.W k).2 ++ st)) = total by
            rw [← hgo, hn', show 4098 - (os.length + 1) = n' by omega]; rfl)
          have HBR := Lib.hid (show brnOf m.R m.t.G m.t.W k = ⟨k.name, (beneathB m.R m.t.G m.t.W k).1, k.i, k.j, (beneathB m.R m.t.G m.t.W k).2.length⟩ from rfl)
          obtain ⟨bb, hbb⟩ : ∃ b, b = beneathB m.R m.t.G m.t.W k := ⟨_, rfl⟩
          rw [← hbb] at hkl HST HGO HBR
          have HO := Lib.hid ho
          have HTK := Lib.hid (own_take (by simp) ht)
          have CB := Lib.hid (show ∀ W', Below wr.heap.size wr W' → Calls Try.prog 16 #[.pointer (some ⟨xb, 0, none⟩), .agg #[.int .i64 k.kind, .int .i64 k.name, .int .i64 k.plc.rule, .int .i64 k.plc.conj, .int .i64 k.plc.pos, .int .i64 k.i, .int .i64 k.j]] W' (BenPost W' bb) from fun W' hW' => by rw [hbb]; exact gBeneath (HM5.out.mono (below_then HB.out hW')) (HG5.out.mono (below_then HB.out hW')) F HMF.out k hkp hk0)
          have hsl : st.length ≤ 4096 := by simp only [List.length_cons] at hlen; omega
          have hol : os.length ≤ 4096 := by omega
          have eL : IntKind.i64.wrap ((st.length : Int) + 1 - 1) = (st.length : Int) := by rw [show (st.length : Int) + 1 - 1 = st.length by omega]; exact IntWalk.i64_in _ (by omega)
          have eL2 : IntKind.i64.wrap (st.length : Int) = (st.length : Int) := IntWalk.i64_in _ (by omega)
          clear ho ht hst hgo hb hn' hCt K hbk hben hbb hkp hk0 hxr hLn
          go_upto_region 12 with fail
          --RG
          obtain ⟨bk, hbk⟩ : ∃ b, b = wr.heap.size := ⟨_, rfl⟩
          have x9 := heap_alloc_new wr (.cells #[.int .i64 k.kind, .int .i64 k.name, .int .i64 k.plc.rule, .int .i64 k.plc.conj, .int .i64 k.plc.pos, .int .i64 k.i, .int .i64 k.j] 59)
          have h9 : Below wr.heap.size wr (wr.alloc (.cells #[.int .i64 k.kind, .int .i64 k.name, .int .i64 k.plc.rule, .int .i64 k.plc.conj, .int .i64 k.plc.pos, .int .i64 k.i, .int .i64 k.j] 59)) := below_alloc' (below_refl _) _
          rw [← hbk] at x9 ⊢
          generalize wr.alloc (.cells #[.int .i64 k.kind, .int .i64 k.name, .int .i64 k.plc.rule, .int .i64 k.plc.conj, .int .i64 k.plc.pos, .int .i64 k.i, .int .i64 k.j] 59) = wk at x9 h9 ⊢
          have XK := Lib.hid x9
          have HK9 := Lib.hid h9
          have z0 : wk.cell? ⟨bk, 0, none⟩ = some (.int .i64 k.kind) := by simpa using blk_cell x9 0
          have z1 : wk.cell? ⟨bk, 1, none⟩ = some (.int .i64 k.name) := by simpa using blk_cell x9 1
          have z2 : wk.cell? ⟨bk, 2, none⟩ = some (.int .i64 k.plc.rule) := by simpa using blk_cell x9 2
          have z3 : wk.cell? ⟨bk, 3, none⟩ = some (.int .i64 k.plc.conj) := by simpa using blk_cell x9 3
          have z4 : wk.cell? ⟨bk, 4, none⟩ = some (.int .i64 k.plc.pos) := by simpa using blk_cell x9 4
          have z5 : wk.cell? ⟨bk, 5, none⟩ = some (.int .i64 k.i) := by simpa using blk_cell x9 5
          have z6 : wk.cell? ⟨bk, 6, none⟩ = some (.int .i64 k.j) := by simpa using blk_cell x9 6
          have CB := Lib.hid (CB.out wk h9)
          clear hbk x9 h9 kf0 kf1 kf2 kf3 kf4 kf5 kf6
          have esum : IntKind.i64.wrap ((os.length : Int) + 1 + ((st.length : Int) + (bb.2.length : Int))) = (os.length : Int) + 1 + ((st.length : Int) + (bb.2.length : Int)) := IntWalk.i64_in _ (by omega)
          by_cases hmany : 4096 < os.length + 1 + (st.length + bb.2.length)
          · have dm : decide ((4096 : Int) < (os.length : Int) + 1 + ((st.length : Int) + (bb.2.length : Int))) = true := decide_eq_true (by omega)
            have HTO := Lib.hid (show total = none by rw [← HGO.out, if_pos (by simp only [List.length_append, List.length_cons, List.length_nil]; omega)])
            clear hmany
            go_wp2_with (first
              | (go_at_call 16; (with_reducible refine CB.out.mono ?_); rintro e w6 ⟨Ak, ck, rfl, hKO, hb6⟩; have z1 : w6.cell? ⟨bk, 1, none⟩ = some (.int .i64 k.name) := (by simpa using blk_cell (blk_below XK.out hb6) 1); have z5 : w6.cell? ⟨bk, 5, none⟩ = some (.int .i64 k.i) := (by simpa using blk_cell (blk_below XK.out hb6) 5); have z6 : w6.cell? ⟨bk, 6, none⟩ = some (.int .i64 k.j) := (by simpa using blk_cell (blk_below XK.out hb6) 6); have HKO := Lib.hid hKO; have HB6 := Lib.hid hb6; have HX6 := Lib.hid (below_then HK9.out hb6); clear hKO hb6)
              | (at_builtin; refine wpList_append_one (d := brnRd) rfl (base := w5.heap.size) _ _ 33 41 _ 40 (by rfl) Try.underlying33 infoBrn (by rfl) (by show 0 < 5; decide) (v := .slice A9 os.length c9) (xs := os) (by rfl) ((HO.out.below HX6.out).below (below_alloc' (below_refl _) _)) ⟨k.name, bb.1, k.i, k.j, (bb.2.length : Int)⟩ #[.int .i64 k.name, .int .i64 bb.1, .int .i64 k.i, .int .i64 k.j, .int .i64 bb.2.length] (fun _ _ => rfl) (b := w6.heap.size) (c := 1) (by rfl) (by exact heap_alloc_new w6 (.cells #[.int .i64 k.name, .int .i64 bb.1, .int .i64 k.i, .int .i64 k.j, .int .i64 bb.2.length] 41)) (by omega) (by decide) (by have := HX6.out.size; have := HB.out.size; rw [World.size_alloc]; omega) ?_; intro v7 w7 o7 g7 t7; have hba : Below w6.heap.size w6 (w6.alloc (.cells #[.int .i64 k.name, .int .i64 bb.1, .int .i64 k.i, .int .i64 k.j, .int .i64 bb.2.length] 41)) := below_alloc' (below_refl _) _; have HK7 := Lib.hid (HKO.out.upd ((Upd.of_below hba).trans (Upd.of_grown g7)) (fun b hb => Nat.lt_of_lt_of_le (HO.out.base hb).2 HK9.out.size)); have HT7 := Lib.hid (((HTK.out.below HX6.out).below hba).flat_upd flat_ky (Upd.of_grown g7) (fun b hb e => own_type_ne ((HO.out.below HX6.out).below hba) ((HTK.out.below HX6.out).below hba) (by decide) e hb)); have HB7 := Lib.hid ((below_then (below_then HB.out HX6.out) hba).grown g7 (below_then (below_then HB.out HX6.out) hba).size (fun b hb => (HO.out.base hb).1)); have HT := Lib.hid (show ∀ b, v7.ownBlock = some b → b < wr.heap.size ∨ b = w6.heap.size + 1 from fun b hb => t7.elim (fun h => .inl (HO.out.base (h ▸ hb)).2) (fun h => .inr (by rw [h] at hb; injection hb with hb; rw [World.size_alloc] at hb; omega))); have O7 := Lib.hid o7; obtain ⟨A7, c7, ev, l7, l7', -⟩ := id o7.shape; rw [show (os ++ [(⟨k.name, bb.1, k.i, k.j, (bb.2.length : Int)⟩ : Brn)]).length = os.length + 1 from List.length_append] at ev l7; subst ev; clear o7 g7 t7 hba z1 z5 z6)
              | (go_at_call 17; (with_reducible refine (kReverseAll HK7.out (by omega)).mono ?_); rintro e w8 ⟨rfl, hC8, hu8⟩; have HC8 := Lib.hid hC8; have HO8 := Lib.hid (O7.out.flat_upd flat_brn hu8 (fun b hb e => by have h1 := HKO.out.base e; have h2 := HK9.out.size; rcases HT.out b hb with h | h <;> omega)); have HT8 := Lib.hid (HT7.out.flat_upd flat_ky hu8 (fun b hb e => by have h1 := HKO.out.base e; have h2 := HK9.out.size; have h3 := (HTK.out.base hb).2; omega)); have HB8 := Lib.hid (HB7.out.trans (hu8.below HB7.out.size (fun b hb => Nat.le_trans (below_then HB.out HK9.out).size (HKO.out.base hb).1))); clear hC8 hu8)
              | (at_builtin; refine wpList_append_flat (d := kyRd) rfl (base := w5.heap.size) _ _ 64 59 _ 56 (by rfl) Try.underlying64 infoKy (by rfl) (by show 0 < 7; decide) (v := .slice (some ⟨g, 0, none⟩) st.length cap) (xs := st.reverse) (ys := bb.2.reverse) (by rfl) HT8.out flat_ky (A := Ak) (c := ck) (by rw [List.length_reverse]; rfl) HC8.out (by simp only [List.length_reverse]; omega) (by decide) HB8.out.size ?_; intro v9 w9 o9 g9 t9; have HO9 := Lib.hid (HO8.out.flat_upd flat_brn (Upd.of_grown g9) (fun b hb e => own_type_ne HT8.out HO8.out (by decide) e hb)); have HB9 := Lib.hid (HB8.out.grown g9 HB8.out.size (fun b hb => (HTK.out.base hb).1)); have HT9 := Lib.hid (show Own kyRd 59 w5.heap.size w9 v9 (bb.2 ++ st).reverse by rw [List.reverse_append]; exact o9); obtain ⟨A0, c0, ev, -, -, -⟩ := id o9.shape; rw [show (st.reverse ++ bb.2.reverse).length = st.length + bb.2.length by simp] at ev; subst ev; clear o9 g9 t9)
              | fail)
            refine bodyPost_ret (v := .tuple #[.slice none 0 0, .int .i64 2202]) (by simp [results, Try.results8, go_sem]) rfl ?_
            refine ⟨below_then HB5'.out HB9.out, .inr ⟨HNR.out, HWW.out, _, _, HV.out, .inr (.inl ⟨?_, ?_, rfl⟩)⟩⟩
            · rw [← HRT.out]; exact hpos
            · rw [← HRT.out]; exact HTT.out.symm.trans HTO.out
          · have dm : decide ((4096 : Int) < (os.length : Int) + 1 + ((st.length : Int) + (bb.2.length : Int))) = false := decide_eq_false (by omega)
            have HTO := Lib.hid (show firstGo m.R m.t.G m.t.W (4098 - (os.length + 1)) (os ++ [⟨k.name, bb.1, k.i, k.j, (bb.2.length : Int)⟩]) (bb.2 ++ st) = total by rw [← HGO.out, if_neg (by simp only [List.length_append, List.length_cons, List.length_nil]; omega), HBR.out])
            have HMN := Lib.hid hmany
            clear hmany
            go_wp2_with (first
              | (go_at_call 16; (with_reducible refine CB.out.mono ?_); rintro e w6 ⟨Ak, ck, rfl, hKO, hb6⟩; have z1 : w6.cell? ⟨bk, 1, none⟩ = some (.int .i64 k.name) := (by simpa using blk_cell (blk_below XK.out hb6) 1); have z5 : w6.cell? ⟨bk, 5, none⟩ = some (.int .i64 k.i) := (by simpa using blk_cell (blk_below XK.out hb6) 5); have z6 : w6.cell? ⟨bk, 6, none⟩ = some (.int .i64 k.j) := (by simpa using blk_cell (blk_below XK.out hb6) 6); have HKO := Lib.hid hKO; have HB6 := Lib.hid hb6; have HX6 := Lib.hid (below_then HK9.out hb6); clear hKO hb6)
              | (at_builtin; refine wpList_append_one (d := brnRd) rfl (base := w5.heap.size) _ _ 33 41 _ 40 (by rfl) Try.underlying33 infoBrn (by rfl) (by show 0 < 5; decide) (v := .slice A9 os.length c9) (xs := os) (by rfl) ((HO.out.below HX6.out).below (below_alloc' (below_refl _) _)) ⟨k.name, bb.1, k.i, k.j, (bb.2.length : Int)⟩ #[.int .i64 k.name, .int .i64 bb.1, .int .i64 k.i, .int .i64 k.j, .int .i64 bb.2.length] (fun _ _ => rfl) (b := w6.heap.size) (c := 1) (by rfl) (by exact heap_alloc_new w6 (.cells #[.int .i64 k.name, .int .i64 bb.1, .int .i64 k.i, .int .i64 k.j, .int .i64 bb.2.length] 41)) (by omega) (by decide) (by have := HX6.out.size; have := HB.out.size; rw [World.size_alloc]; omega) ?_; intro v7 w7 o7 g7 t7; have hba : Below w6.heap.size w6 (w6.alloc (.cells #[.int .i64 k.name, .int .i64 bb.1, .int .i64 k.i, .int .i64 k.j, .int .i64 bb.2.length] 41)) := below_alloc' (below_refl _) _; have HK7 := Lib.hid (HKO.out.upd ((Upd.of_below hba).trans (Upd.of_grown g7)) (fun b hb => Nat.lt_of_lt_of_le (HO.out.base hb).2 HK9.out.size)); have HT7 := Lib.hid (((HTK.out.below HX6.out).below hba).flat_upd flat_ky (Upd.of_grown g7) (fun b hb e => own_type_ne ((HO.out.below HX6.out).below hba) ((HTK.out.below HX6.out).below hba) (by decide) e hb)); have HB7 := Lib.hid ((below_then (below_then HB.out HX6.out) hba).grown g7 (below_then (below_then HB.out HX6.out) hba).size (fun b hb => (HO.out.base hb).1)); have HT := Lib.hid (show ∀ b, v7.ownBlock = some b → b < wr.heap.size ∨ b = w6.heap.size + 1 from fun b hb => t7.elim (fun h => .inl (HO.out.base (h ▸ hb)).2) (fun h => .inr (by rw [h] at hb; injection hb with hb; rw [World.size_alloc] at hb; omega))); have O7 := Lib.hid o7; obtain ⟨A7, c7, ev, l7, l7', -⟩ := id o7.shape; rw [show (os ++ [(⟨k.name, bb.1, k.i, k.j, (bb.2.length : Int)⟩ : Brn)]).length = os.length + 1 from List.length_append] at ev l7; subst ev; clear o7 g7 t7 hba z1 z5 z6)
              | (go_at_call 17; (with_reducible refine (kReverseAll HK7.out (by omega)).mono ?_); rintro e w8 ⟨rfl, hC8, hu8⟩; have HC8 := Lib.hid hC8; have HO8 := Lib.hid (O7.out.flat_upd flat_brn hu8 (fun b hb e => by have h1 := HKO.out.base e; have h2 := HK9.out.size; rcases HT.out b hb with h | h <;> omega)); have HT8 := Lib.hid (HT7.out.flat_upd flat_ky hu8 (fun b hb e => by have h1 := HKO.out.base e; have h2 := HK9.out.size; have h3 := (HTK.out.base hb).2; omega)); have HB8 := Lib.hid (HB7.out.trans (hu8.below HB7.out.size (fun b hb => Nat.le_trans (below_then HB.out HK9.out).size (HKO.out.base hb).1))); clear hC8 hu8)
              | (at_builtin; refine wpList_append_flat (d := kyRd) rfl (base := w5.heap.size) _ _ 64 59 _ 56 (by rfl) Try.underlying64 infoKy (by rfl) (by show 0 < 7; decide) (v := .slice (some ⟨g, 0, none⟩) st.length cap) (xs := st.reverse) (ys := bb.2.reverse) (by rfl) HT8.out flat_ky (A := Ak) (c := ck) (by rw [List.length_reverse]; rfl) HC8.out (by simp only [List.length_reverse]; omega) (by decide) HB8.out.size ?_; intro v9 w9 o9 g9 t9; have HO9 := Lib.hid (HO8.out.flat_upd flat_brn (Upd.of_grown g9) (fun b hb e => own_type_ne HT8.out HO8.out (by decide) e hb)); have HB9 := Lib.hid (HB8.out.grown g9 HB8.out.size (fun b hb => (HTK.out.base hb).1)); have HT9 := Lib.hid (show Own kyRd 59 w5.heap.size w9 v9 (bb.2 ++ st).reverse by rw [List.reverse_append]; exact o9); obtain ⟨A0, c0, ev, -, -, -⟩ := id o9.shape; rw [show (st.reverse ++ bb.2.reverse).length = st.length + bb.2.length by simp] at ev; subst ev; clear o9 g9 t9)
              | fail)
            go_roundg (4098 - (os.length + 1))
            case measure => have := HMN.out; omega
            case rel => exact ⟨_, bb.2 ++ st, HO9.out, HT9.out, HST.out, by have := HMN.out; simp only [List.length_append, List.length_cons, List.length_nil]; omega, by rw [show (os ++ [(⟨k.name, bb.1, k.i, k.j, (bb.2.length : Int)⟩ : Brn)]).length = os.length + 1 from List.length_append]; exact HTO.out, by rw [show (os ++ [(⟨k.name, bb.1, k.i, k.j, (bb.2.length : Int)⟩ : Brn)]).length = os.length + 1 from List.length_append]; exact Nat.le_refl _, HB9.out⟩
          --EG
end Go.Proofs.Ytbidpeggdhkahaa
