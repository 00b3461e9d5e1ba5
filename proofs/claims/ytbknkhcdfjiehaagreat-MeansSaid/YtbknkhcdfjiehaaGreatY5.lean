/-
  Y5: templelaw11.Means answers true.
-/
import Derived.Test.YtbknkhcdfjiehaaGreatY2
import Derived.Test.YtbknkhcdfjiehaaGreatY4
import Derived.Test.YtbknkhcdfjiehaaGreatD1
import Derived.Test.YtbknkhcdfjiehaaGreatK2
set_option linter.unusedSimpArgs false
set_option linter.unusedVariables false
namespace Go.Proofs.YtbknkhcdfjiehaaGreat
open Go.RowKit

/-- Both tables answer alike, whatever is asked. -/
structure Alike (w : World) (p q : Nat) (b : Int → Int → Int → Bool) (v : Int → Int → Int → Int) (B : Int → Int → Int → Int → Int → Bool) (V : Int → Int → Int → Int → Int → Int) : Prop where
  h1 : ∀ w5, Below w.heap.size w w5 → ∀ k i j, Calls Tryz.prog 12 #[.pointer (some ⟨p, 0, none⟩), .int .i64 k, .int .i64 i, .int .i64 j] w5 fun e w' => e = .returned (.bool (b k i j)) ∧ Below w5.heap.size w5 w'
  h2 : ∀ w5, Below w.heap.size w w5 → ∀ k i j, Calls Tryz.prog 13 #[.pointer (some ⟨q, 0, none⟩), .int .i64 k, .int .i64 i, .int .i64 j] w5 fun e w' => e = .returned (.bool (b k i j)) ∧ Below w5.heap.size w5 w'
  r1 : ∀ w5, Below w.heap.size w w5 → ∀ k i j, Calls Tryz.prog 14 #[.pointer (some ⟨p, 0, none⟩), .int .i64 k, .int .i64 i, .int .i64 j] w5 fun e w' => e = .returned (.int .i64 (v k i j)) ∧ Below w5.heap.size w5 w'
  r2 : ∀ w5, Below w.heap.size w w5 → ∀ k i j, Calls Tryz.prog 15 #[.pointer (some ⟨q, 0, none⟩), .int .i64 k, .int .i64 i, .int .i64 j] w5 fun e w' => e = .returned (.int .i64 (v k i j)) ∧ Below w5.heap.size w5 w'
  s1 : ∀ w5, Below w.heap.size w w5 → ∀ r c x i j, Calls Tryz.prog 16 #[.pointer (some ⟨p, 0, none⟩), .agg #[.int .i64 r, .int .i64 c, .int .i64 x], .int .i64 i, .int .i64 j] w5 fun e w' => e = .returned (.bool (B r c x i j)) ∧ Below w5.heap.size w5 w'
  s2 : ∀ w5, Below w.heap.size w w5 → ∀ r c x i j, Calls Tryz.prog 17 #[.pointer (some ⟨q, 0, none⟩), .agg #[.int .i64 r, .int .i64 c, .int .i64 x], .int .i64 i, .int .i64 j] w5 fun e w' => e = .returned (.bool (B r c x i j)) ∧ Below w5.heap.size w5 w'
  t1 : ∀ w5, Below w.heap.size w w5 → ∀ r c x i j, Calls Tryz.prog 18 #[.pointer (some ⟨p, 0, none⟩), .agg #[.int .i64 r, .int .i64 c, .int .i64 x], .int .i64 i, .int .i64 j] w5 fun e w' => e = .returned (.int .i64 (V r c x i j)) ∧ Below w5.heap.size w5 w'
  t2 : ∀ w5, Below w.heap.size w w5 → ∀ r c x i j, Calls Tryz.prog 19 #[.pointer (some ⟨q, 0, none⟩), .agg #[.int .i64 r, .int .i64 c, .int .i64 x], .int .i64 i, .int .i64 j] w5 fun e w' => e = .returned (.int .i64 (V r c x i j)) ∧ Below w5.heap.size w5 w'
theorem alike_of {w : World} {t : TS} {fin st : Rk × Rk} {r : RT} (S : Stat w t) (F : t.Fits) (R : Rows w t fin.1 fin.2) (A : RTAt w r) (F' : r.Fits) (N : FlatAt w r r.nb r.G.names.length st.1) (P : FlatAt w r r.rb (qG r.G) st.2)
    (E : (∀ k i j : Int, t.rank fin.1 k i j = r.rank st.1 k i j) ∧ (∀ a b c i j : Int, t.rrank fin.2 a b c i j = r.rrank st.2 a b c i j)) : ∃ b v B V, Alike w t.p r.p b v B V :=
  ⟨fun k i j => decide (0 < t.rank fin.1 k i j), t.rank fin.1, fun a b c i j => decide (0 < t.rrank fin.2 a b c i j), t.rrank fin.2,
    fun w5 h k i j => has_any (S.below h) F (R.below h) k i j, fun w5 h k i j => by simp only [E.1]; exact rhas_any (A.below h) F' (N.below h) k i j,
    fun w5 h k i j => rank_any (S.below h) F (R.below h) k i j, fun w5 h k i j => by simp only [E.1]; exact rrank_any (A.below h) F' (N.below h) k i j,
    fun w5 h a b c i j => restHas_any (S.below h) F (R.below h) a b c i j, fun w5 h a b c i j => by simp only [E.2]; exact rrestHas_any (A.below h) F' (P.below h) a b c i j,
    fun w5 h a b c i j => restRank_any (S.below h) F (R.below h) a b c i j, fun w5 h a b c i j => by simp only [E.2]; exact rrestRank_any (A.below h) F' (P.below h) a b c i j⟩
def MnA (W : ByteArray) (w : World) (cnt : Value) (wr : World) : Prop := ∃ a : Nat, cnt = .int .i64 a ∧ a ≤ W.size + 1 ∧ Below w.heap.size w wr
def MnB (W : ByteArray) (w : World) (cnt : Value) (wr : World) : Prop := ∃ a : Nat, cnt = .int .i64 a ∧ a ≤ W.size + 1 ∧ Below w.heap.size w wr
def MnK (n : Nat) (w : World) (cnt : Value) (wr : World) : Prop := ∃ k : Nat, cnt = .int .i64 k ∧ k ≤ n ∧ Below w.heap.size w wr
theorem short_of {G : Gram} (h : Holdable G) : Shortish G := ⟨by have := h.names; omega, by have := h.rules; omega, fun x hx => by have := h.conj x hx; omega, fun x hx y hy => by have := h.seq x hx y hy; omega⟩
theorem names_short {G : Gram} (M : MayG G) : ∀ x ∈ G.names, x.size ≤ 1000000 := fun x hx => by
  have h := M.names
  unfold namesB at h
  simp only [Bool.and_eq_true, List.all_eq_true] at h
  have h2 := h.1.2 x hx
  unfold nameB at h2
  simp only [Bool.and_eq_true, decide_eq_true_eq] at h2
  omega
set_option maxRecDepth 100000 in
set_option maxHeartbeats 16000000 in
theorem means_any {w : World} (G : Gram) (W : ByteArray) {A A' : Option Addr} {c c' : Nat} (nm pr pc pq pi pj : Int) (hWs : W.size < 140737488351233) (hG : Holdable G) (n1 : G.names.length ≤ c) (n2 : c ≤ 9223372036854775807) (n3 : Rd.str.C w A G.names) (n4 : G.rules.length ≤ c') (n5 : c' ≤ 9223372036854775807) (n6 : rulRd.C w A' G.rules) :
    Calls Tryz.prog 3 #[.agg #[.int .i64 G.start, .slice A G.names.length c, .slice A' G.rules.length c'], .string W, .int .i64 nm, .agg #[.int .i64 pr, .int .i64 pc, .int .i64 pq], .int .i64 pi, .int .i64 pj] w
      fun e w' => e = .returned (.bool true) ∧ Below w.heap.size w w' := by
  have hb0 : Below w.heap.size w ((w.alloc (Obj.cells #[Value.int .i64 G.start, Value.slice A G.names.length c, Value.slice A' G.rules.length c'] 25)).alloc (Obj.cells #[Value.int .i64 pr, Value.int .i64 pc, Value.int .i64 pq] 27)) := below_alloc' (below_alloc' (below_refl w) _) _
  have B0 := heap_alloc2_old w (Obj.cells #[Value.int .i64 G.start, Value.slice A G.names.length c, Value.slice A' G.rules.length c'] 25) (Obj.cells #[Value.int .i64 pr, Value.int .i64 pc, Value.int .i64 pq] 27)
  have B2 := heap_alloc2_new w (Obj.cells #[Value.int .i64 G.start, Value.slice A G.names.length c, Value.slice A' G.rules.length c'] 25) (Obj.cells #[Value.int .i64 pr, Value.int .i64 pc, Value.int .i64 pq] 27)
  have N3 := Lib.hid n3
  have N6 := Lib.hid n6
  clear n3 n6
  go_enter Tryz.func3, Tryz.ntmps3
  go_upto_region 1 with fail
  obtain ⟨bx, hbx⟩ : ∃ bx, bx = w.heap.size := ⟨_, rfl⟩
  rw [← hbx] at B0 B2 ⊢
  generalize (w.alloc (Obj.cells #[Value.int .i64 G.start, Value.slice A G.names.length c, Value.slice A' G.rules.length c'] 25)).alloc (Obj.cells #[Value.int .i64 pr, Value.int .i64 pc, Value.int .i64 pq] 27) = w0 at hb0 B0 B2 ⊢
  have HB0 := Lib.hid hb0
  have HX := Lib.hid B0
  have HP := Lib.hid B2
  have HBX := Lib.hid hbx
  have hlx : bx + 1 < w0.heap.size := blk_lt B2
  clear hb0 B0 B2 hbx
  have z0 : w0.cell? ⟨bx, 0, none⟩ = some (.int .i64 G.start) := blk_cell HX.out 0
  have z1 : w0.cell? ⟨bx, 1, none⟩ = some (.slice A G.names.length c) := blk_cell HX.out 1
  have z2 : w0.cell? ⟨bx, 2, none⟩ = some (.slice A' G.rules.length c') := blk_cell HX.out 2
  have CP := Lib.hid (copyD_any (w := w0) G n1 n2 (N3.out.mono HB0.out) n4 n5 (N6.out.mono HB0.out) hG)
  go_upto_region 2 with (first
    | (go_at_call 4; refine CP.out.mono ?_; rintro e w2 ⟨vn, vr, vc, base, B, rfl, on, D, h1, h2, h3, h4, hb2⟩; obtain ⟨An, kn, rfl, l1, l2, l3⟩ := id on.shape; obtain ⟨Ar, kr, rfl, q1, q2, rC⟩ := deep_rd D; clear z0 z1 z2)
    | fail)
  have hl9 := heap_alloc_new w2 (Obj.cells #[.int .i64 G.start, .slice An G.names.length kn, .slice Ar G.rules.length kr] 25)
  have h29 : Below w2.heap.size w2 (w2.alloc (Obj.cells #[.int .i64 G.start, .slice An G.names.length kn, .slice Ar G.rules.length kr] 25)) := below_alloc' (below_refl _) _
  obtain ⟨A0, c0, sq, er, SP⟩ := deep_spn (lo := w0.heap.size) D (by omega)
  have er1 : Ar = A0 := by injection er with a _ _
  clear er
  subst er1
  generalize w2.alloc (Obj.cells #[.int .i64 G.start, .slice An G.names.length kn, .slice Ar G.rules.length kr] 25) = W0 at hl9 h29 ⊢
  obtain ⟨b9, hb9⟩ : ∃ b9, b9 = w2.heap.size := ⟨_, rfl⟩
  obtain ⟨lo, hlo⟩ : ∃ lo, lo = w0.heap.size := ⟨_, rfl⟩
  have HNM0 := Lib.hid (show ∀ (i : Nat) (x : ByteArray), G.names[i]? = some x → ∃ ad, An = some ad ∧ (lo ≤ ad.block ∧ ad.block < b9) ∧ W0.cell? (ad.add i) = some (.string x) ∧ W0.frozen? (ad.add i) = false from fun i x hx => by
    obtain ⟨g, cap, ev, hg, ⟨cur, hh⟩, -, -⟩ := on.form (by have := (List.getElem?_eq_some_iff.1 hx).1; omega)
    injection ev with ev _ _
    subst ev
    have hc := on.one_at hx
    refine ⟨_, rfl, ⟨by simp only; omega, by rw [hb9]; exact blk_lt hh⟩, ?_, ?_⟩
    · rw [add_plain, Nat.zero_add]; exact below_cell h29 hc
    · rw [add_plain]; exact below_froz h29 (by rw [Nat.zero_add]; exact hc) (blk_frozen hh _))
  rw [← hb9, ← hlo] at SP
  rw [← hb9] at hl9 ⊢
  have HSP0 := Lib.hid (SP.spo (Spo.of_below (R := fun _ => False) h29))
  have hs09 : lo ≤ b9 := by rw [hlo, hb9]; exact hb2.size
  have HSX := Lib.hid (show bx + 1 < lo by omega)
  have HWX := Lib.hid (show w.heap.size ≤ lo by have := HBX.out; omega)
  have h9W : b9 < W0.heap.size := blk_lt hl9
  have H9W := Lib.hid h9W
  have HL9 := Lib.hid hl9
  have HB29 := Lib.hid (below_then (below_then HB0.out hb2) h29)
  have HX0 := Lib.hid (blk_below HX.out (below_then hb2 h29))
  have HP0 := Lib.hid (blk_below HP.out (below_then hb2 h29))
  have L3 := Lib.hid (l3.mono h29)
  have RC := Lib.hid (rC.mono h29)
  clear on D h1 h2 h3 h4 hb2 SP l3 rC hl9 h29 HB0 HX HP CP hb9 hlo hlx h9W hs09
  have CN := Lib.hid (new_wholeL (w := W0) G W l1 l2 L3.out q1 q2 RC.out)
  have y0 : W0.cell? ⟨b9, 0, none⟩ = some (.int .i64 G.start) := blk_cell HL9.out 0
  have y1 : W0.cell? ⟨b9, 1, none⟩ = some (.slice An G.names.length kn) := blk_cell HL9.out 1
  have y2 : W0.cell? ⟨b9, 2, none⟩ = some (.slice Ar G.rules.length kr) := blk_cell HL9.out 2
  go_wp2_with fail
  refine CN.out.mono ?_
  clear CN y0 y1 y2
  have HSH := Lib.hid (short_of hG)
  rintro e w3 ⟨hb3, ⟨hbad, rfl⟩ | ⟨hmay, hcyc, hW32, t, fin, tL, tG, tW, rfl, tS, tl, tR, tSol⟩⟩
  · have HB3 := Lib.hid hb3
    have z0 : w3.cell? ⟨bx, 0, none⟩ = some (.int .i64 G.start) := blk_cell (blk_below HX0.out hb3) 0
    have z1 : w3.cell? ⟨bx, 1, none⟩ = some (.slice A G.names.length c) := blk_cell (blk_below HX0.out hb3) 1
    have z2 : w3.cell? ⟨bx, 2, none⟩ = some (.slice A' G.rules.length c') := blk_cell (blk_below HX0.out hb3) 2
    have CT := Lib.hid (show Calls Tryz.prog 6 #[gVal G A c A' c', .string W] w3 (fun e w' => e = .returned (.tuple #[.pointer none, .int .i64 1100]) ∧ Below w3.heap.size w3 w') from
      (rnew_any (c := c) (c' := c') (by omega) HSH.out.n HSH.out.r (N3.out.mono (below_then HB29.out hb3)) (N6.out.mono (below_then HB29.out hb3))).mono (fun e w' h => by
        rcases h with ⟨-, h1, h2⟩ | ⟨hm, hN, hW, -⟩
        · exact ⟨h1, h2⟩
        · exfalso
          rcases hbad with (h | h) | h
          · rw [hm] at h; cases h
          · exact hN h
          · omega))
    clear hb3 hbad
    go_wp2_with (first
      | (go_at_call 6; refine CT.out.mono ?_; rintro e w4 ⟨rfl, hb4⟩; have HB4 := Lib.hid (below_then HB3.out hb4); clear hb4 z0 z1 z2; have y0 := blk_cell (blk_below HL9.out HB4.out) 0; have y1 := blk_cell (blk_below HL9.out HB4.out) 1; have y2 := blk_cell (blk_below HL9.out HB4.out) 2; have z0 := blk_cell (blk_below HX0.out HB4.out) 0; have z1 := blk_cell (blk_below HX0.out HB4.out) 1; have z2 := blk_cell (blk_below HX0.out HB4.out) 2; simp at y0 y1 y2 z0 z1 z2)
      | (go_at_call 7; refine (same_gram HSH.out (L3.out.mono HB4.out) (N3.out.mono (below_then HB29.out HB4.out)) (RC.out.mono HB4.out) (N6.out.mono (below_then HB29.out HB4.out))).mono ?_; rintro e w5 ⟨rfl, hb5⟩; have HB5 := Lib.hid (below_then HB4.out hb5); clear hb5 y0 y1 y2 z0 z1 z2)
      | (go_at_call 8; refine (num_any _ _).mono ?_; rintro e w6 ⟨rfl, rfl⟩)
      | (go_at_call 9; refine (awake_any _).mono ?_; rintro e w7 ⟨rfl, hb7⟩; have HB7 := Lib.hid (below_then HB5.out hb7); clear hb7)
      | fail)
    go_ret
    exact ⟨rfl, below_then HB29.out HB7.out⟩
  · have HB3 := Lib.hid hb3
    have z0 : w3.cell? ⟨bx, 0, none⟩ = some (.int .i64 G.start) := blk_cell (blk_below HX0.out hb3) 0
    have z1 : w3.cell? ⟨bx, 1, none⟩ = some (.slice A G.names.length c) := blk_cell (blk_below HX0.out hb3) 1
    have z2 : w3.cell? ⟨bx, 2, none⟩ = some (.slice A' G.rules.length c') := blk_cell (blk_below HX0.out hb3) 2
    have CT := Lib.hid (show Calls Tryz.prog 6 #[gVal G A c A' c', .string W] w3 (NewGood w3 G W A') from
      (rnew_any (c := c) (c' := c') (by omega) HSH.out.n HSH.out.r (N3.out.mono (below_then HB29.out hb3)) (N6.out.mono (below_then HB29.out hb3))).mono (fun e w' h => by
        rcases h with ⟨(h | h) | h, -⟩ | ⟨hm, hN, hW, h⟩
        · rw [hmay] at h; cases h
        · exact absurd h hcyc
        · omega
        · exact h))
    have HMAY := Lib.hid hmay
    have TL := Lib.hid tL
    have TG := Lib.hid tG
    have TW := Lib.hid tW
    have TS' := Lib.hid tS
    have TLO := Lib.hid tl
    have TR := Lib.hid tR
    have TSOL := Lib.hid tSol
    obtain ⟨tp, htp⟩ : ∃ tp, tp = t.p := ⟨_, rfl⟩
    have HTP := Lib.hid htp
    rw [← htp]
    clear hb3 hmay hcyc tL tG tW tS tl tR tSol htp
    go_upto_region 6 with (first
      | (go_at_call 6; refine CT.out.mono ?_; rintro e w4 ⟨r, T, st, rG, rW, rF, rT, rA, rN, rP, rR, rfl, hb4, rlow, rAr⟩; have HB34 := Lib.hid hb4; have HB4 := Lib.hid (below_then HB3.out hb4); have RG := Lib.hid rG; have RW := Lib.hid rW; have RF := Lib.hid rF; have RT' := Lib.hid rT; have RA := Lib.hid rA; have RN := Lib.hid rN; have RP := Lib.hid rP; have RR := Lib.hid rR; have RLOW := Lib.hid rlow; have RAR := Lib.hid rAr; obtain ⟨rp, hrp⟩ : (∃ rp, rp = r.p) := ⟨_, rfl⟩; have HRP := Lib.hid hrp; rw [← hrp]; clear hb4 z0 z1 z2 rG rW rF rT rA rN rP rR rlow rAr hrp; have y0 := blk_cell (blk_below HL9.out HB4.out) 0; have y1 := blk_cell (blk_below HL9.out HB4.out) 1; have y2 := blk_cell (blk_below HL9.out HB4.out) 2; have z0 := blk_cell (blk_below HX0.out HB4.out) 0; have z1 := blk_cell (blk_below HX0.out HB4.out) 1; have z2 := blk_cell (blk_below HX0.out HB4.out) 2; simp at y0 y1 y2 z0 z1 z2)
      | (go_at_call 7; refine (same_gram HSH.out (L3.out.mono HB4.out) (N3.out.mono (below_then HB29.out HB4.out)) (RC.out.mono HB4.out) (N6.out.mono (below_then HB29.out HB4.out))).mono ?_; rintro e w5 ⟨rfl, hb5⟩; have HB45 := Lib.hid hb5; have HB5 := Lib.hid (below_then HB4.out hb5); clear hb5 y0 y1 y2 z0 z1 z2)
      | fail)
    have y0 : w5.cell? ⟨b9, 0, none⟩ = some (.int .i64 G.start) := blk_cell (blk_below HL9.out HB5.out) 0
    have y1 : w5.cell? ⟨b9, 1, none⟩ = some (.slice An G.names.length kn) := blk_cell (blk_below HL9.out HB5.out) 1
    have y2 : w5.cell? ⟨b9, 2, none⟩ = some (.slice Ar G.rules.length kr) := blk_cell (blk_below HL9.out HB5.out) 2
    obtain ⟨R, hRe⟩ : ∃ R : Nat → Prop, R = fun b => lo ≤ b ∧ b < b9 := ⟨_, rfl⟩
    have HR := Lib.hid (show ∀ b, R b → lo ≤ b ∧ b < b9 from fun b hb => by rw [hRe] at hb; exact hb)
    have CS := Lib.hid (spoilG_any (w := w5) (c := kn) (c' := kr) (R := R) G (fun b hb => by have := HR.out b hb; have := HB5.out.size; have := H9W.out; omega) (mayG HMAY.out) (names_short (mayG HMAY.out))
      (fun i x hx => by
        obtain ⟨ad, e, h1, h2, h3⟩ := HNM0.out i x hx
        exact ⟨ad, e, by rw [hRe]; exact h1, below_cell HB5.out h2, below_froz HB5.out h2 h3⟩)
      (by rw [hRe]; exact HSP0.out.spo (Spo.of_below (R := fun _ => False) HB5.out)))
    clear hRe
    go_upto_region 11 with (first
      | (go_at_call 8; refine (num_any _ _).mono ?_; rintro e wq ⟨rfl, hwq⟩; rw [hwq]; clear hwq)
      | (go_at_call 10; refine CS.out.mono ?_; rintro e w6 ⟨rfl, hs6⟩; have HS6 := Lib.hid hs6; clear hs6 y0 y1 y2 CS)
      | fail)
    have HU6 := Lib.hid (show Below w.heap.size w w6 from (below_then HB29.out HB5.out).trans (HS6.out.U.below (by have := HB5.out.size; have := HB29.out.size; omega) (fun b hb => by have := HR.out b hb; have := HWX.out; omega)))
    have HX6 := Lib.hid (show w6.heap[bx]? = some (.cells #[.int .i64 G.start, .slice A G.names.length c, .slice A' G.rules.length c'] 25 (0, 0)) from
      (HS6.out.U.block bx (blk_lt (blk_below HX0.out HB5.out)) (fun h => by have := HR.out bx h; have := HSX.out; omega)).trans (blk_below HX0.out HB5.out))
    have HP6 := Lib.hid (show w6.heap[bx + 1]? = some (.cells #[.int .i64 pr, .int .i64 pc, .int .i64 pq] 27 (0, 0)) from
      (HS6.out.U.block (bx + 1) (blk_lt (blk_below HP0.out HB5.out)) (fun h => by have := HR.out (bx + 1) h; have := HSX.out; omega)).trans (blk_below HP0.out HB5.out))
    have hUW : Upd (fun b => b < W0.heap.size) w5 w6 := HS6.out.U.mono (fun b hb => by have := HR.out b hb; have := H9W.out; omega)
    have hU3 : Upd (fun b => b < w3.heap.size) w5 w6 := hUW.mono (fun b (hb : b < W0.heap.size) => by have := HB3.out.size; omega)
    have hb35 := below_then HB34.out HB45.out
    obtain ⟨bf, vf, Bf, Vf, AL⟩ := alike_of (w := w6) (t := t) (fin := fin) (st := st) (r := r) ((TS'.out.below hb35).far hUW).stat TL.out.F ((TR.out.below hb35).far hUW TLO.out)
      ((RA.out.below HB45.out).far RLOW.out hU3 (by rw [RAR.out, RG.out]; exact N6.out.mono HU6.out)) RF.out ((RN.out.below HB45.out).far hU3 RLOW.out.nb) ((RP.out.below HB45.out).far hU3 RLOW.out.rb)
      (means_eq TL.out TSOL.out RT'.out RR.out (RG.out.trans TG.out.symm) (RW.out.trans TW.out.symm))
    rw [← HTP.out, ← HRP.out] at AL
    have HAL := Lib.hid AL
    have HPC := Lib.hid (places_any (w := w6) (A := A) (A' := A') (c := c) (c' := c') G HMAY.out (N3.out.mono HU6.out) (N6.out.mono HU6.out))
    have hK64 := (mayG HMAY.out).K64
    clear hUW hU3 hb35 AL TL TG TW TS' TLO TR TSOL RG RW RF RT' RA RN RP RR RLOW RAR HNM0 HSP0 HB3 HB4 HB5 HB34 HB45 HS6 HR CT
    have z0 : w6.cell? ⟨bx, 0, none⟩ = some (.int .i64 G.start) := blk_cell HX6.out 0
    have z1 : w6.cell? ⟨bx, 1, none⟩ = some (.slice A G.names.length c) := blk_cell HX6.out 1
    have z2 : w6.cell? ⟨bx, 2, none⟩ = some (.slice A' G.rules.length c') := blk_cell HX6.out 2
    go_wp2_with (first
      | (go_at_call 11; refine HPC.out.mono ?_; rintro e w7 ⟨Ap, cp, ps, rfl, hpC, hpl, -, hb7⟩; have PC := Lib.hid hpC; have HB7 := Lib.hid hb7; clear hpC hb7 z0 z1 z2 HPC)
      | fail)
    go_loopw [20] (fun cnt wr => MnA W w7 cnt wr) (fun cnt _ => W.size + 1 - (intOf cnt).toNat)
    case atStart => exact ⟨0, rfl, Nat.zero_le _, below_refl _⟩
    case round =>
      obtain ⟨a, rfl, ha, hb⟩ := hrel
      have HB := Lib.hid hb
      clear hb
      by_cases hlta : a ≤ W.size
      · have d1 : decide ((a : Int) ≤ (W.size : Int)) = true := decide_eq_true (by omega)
        go_wp2_with fail
        go_loopw [21] (fun cnt wi => MnA W w7 cnt wi) (fun cnt _ => W.size + 1 - (intOf cnt).toNat)
        case atStart => exact ⟨a, rfl, ha, HB.out⟩
        case round =>
          clear HB
          obtain ⟨b, rfl, hb0, hb⟩ := hrel
          have HB := Lib.hid hb
          clear hb
          by_cases hltb : b ≤ W.size
          · have d2 : decide ((b : Int) ≤ (W.size : Int)) = true := decide_eq_true (by omega)
            go_wp2_with fail
            go_loopw [22] (fun cnt wi => MnK G.names.length w7 cnt wi) (fun cnt _ => G.names.length - (intOf cnt).toNat)
            case atStart => exact ⟨0, rfl, Nat.zero_le _, HB.out⟩
            case round =>
              clear HB
              obtain ⟨k, rfl, hk, hb⟩ := hrel
              have HB := Lib.hid hb
              have z1 : wr.cell? ⟨bx, 1, none⟩ = some (.slice A G.names.length c) := blk_cell (blk_below HX6.out (below_then HB7.out hb)) 1
              clear hb
              by_cases hltk : k < G.names.length
              · have hki : (k : Int) < G.names.length := by omega
                have e1 : (bf k a b != bf k a b) = false := by simp
                have e2 : (vf k a b != vf k a b) = false := by simp
                have HBW := Lib.hid (below_then HB7.out HB.out)
                have HBL := Lib.hid HB.out
                go_wp2_with (first
                  | (go_at_call 12; refine (HAL.out.h1 _ HBW.out _ _ _).mono ?_; rintro e w8 ⟨rfl, hb8⟩; have HBW := Lib.hid (below_then HBW.out hb8); have HBL := Lib.hid (below_then HBL.out hb8); clear hb8)
                  | (go_at_call 13; refine (HAL.out.h2 _ HBW.out _ _ _).mono ?_; rintro e w8 ⟨rfl, hb8⟩; have HBW := Lib.hid (below_then HBW.out hb8); have HBL := Lib.hid (below_then HBL.out hb8); clear hb8)
                  | (go_at_call 14; refine (HAL.out.r1 _ HBW.out _ _ _).mono ?_; rintro e w8 ⟨rfl, hb8⟩; have HBW := Lib.hid (below_then HBW.out hb8); have HBL := Lib.hid (below_then HBL.out hb8); clear hb8)
                  | (go_at_call 15; refine (HAL.out.r2 _ HBW.out _ _ _).mono ?_; rintro e w8 ⟨rfl, hb8⟩; have HBW := Lib.hid (below_then HBW.out hb8); have HBL := Lib.hid (below_then HBL.out hb8); clear hb8)
                  | fail)
                go_roundw
                case rel => exact ⟨k + 1, by go_num, by omega, HBL.out⟩
                case measure => simp [intOf]; omega
              · have hke : k = G.names.length := by omega
                subst hke
                go_wp2_with fail
                clear z1
                go_loopw [23] (fun cnt wi => MnK ps.length w7 cnt wi) (fun cnt _ => ps.length - (intOf cnt).toNat)
                case atStart => exact ⟨0, rfl, Nat.zero_le _, HB.out⟩
                case round =>
                  clear HB
                  obtain ⟨q, rfl, hq, hb⟩ := hrel
                  have HB := Lib.hid hb
                  by_cases hltq : q < ps.length
                  · obtain ⟨x, hx⟩ : ∃ x, ps[q]? = some x := ⟨_, List.getElem?_eq_getElem hltq⟩
                    obtain ⟨ad, eA, -, q0, q1, q2⟩ := pl_at (PC.out.mono hb) hx
                    subst eA
                    have hqi : (q : Int) < ps.length := by omega
                    have Q0 := Lib.hid q0
                    have Q1 := Lib.hid q1
                    have Q2 := Lib.hid q2
                    have e1 : (Bf x.1 x.2.1 x.2.2 a b != Bf x.1 x.2.1 x.2.2 a b) = false := by simp
                    have e2 : (Vf x.1 x.2.1 x.2.2 a b != Vf x.1 x.2.1 x.2.2 a b) = false := by simp
                    clear hb hx q0 q1 q2
                    go_wp2_with fail
                    refine wp_region_below (by kernel_rfl) (by kernel_rfl) ?_
                    repeat (first
                      | (refine qv_skip (by rfl) ?_; simp only [Act.put, List.setIfInBounds_toArray, List.set_cons_zero, List.set_cons_succ])
                      | (refine qv_val' (by rfl) ?_; apply Exists.intro; refine ⟨fun w5 hC => ?_, ?_⟩; (have qqr0 := below_cell hC Q0.out; have qqr1 := below_cell hC Q1.out; have qqr2 := below_cell hC Q2.out; go_simp; rfl); simp only [Act.put, List.setIfInBounds_toArray, List.set_cons_zero, List.set_cons_succ])
                      | (refine qv_call' (by rfl) ?_; apply Exists.intro; apply Exists.intro; apply Exists.intro; refine ⟨fun w5 hC => ?_, fun w5 hC => ?_, ?_⟩; (go_simp; first | rfl | exact ⟨rfl, rfl⟩); (first | (go_at_call 16; exact calls_in hC (HAL.out.s1 w5 (below_then HB7.out (below_then HB.out hC)) _ _ _ _ _)) | (go_at_call 17; exact calls_in hC (HAL.out.s2 w5 (below_then HB7.out (below_then HB.out hC)) _ _ _ _ _)) | (go_at_call 18; exact calls_in hC (HAL.out.t1 w5 (below_then HB7.out (below_then HB.out hC)) _ _ _ _ _)) | (go_at_call 19; exact calls_in hC (HAL.out.t2 w5 (below_then HB7.out (below_then HB.out hC)) _ _ _ _ _))); simp only [Act.put, List.setIfInBounds_toArray, List.set_cons_zero, List.set_cons_succ]))
                    refine qv_nil ?_
                    intro w5 hC
                    have HBL := Lib.hid (below_then HB.out hC)
                    clear hC
                    go_wp2_with fail
                    go_roundw
                    case rel => exact ⟨q + 1, by go_num, by omega, HBL.out⟩
                    case measure => simp [intOf]; omega
                  · have hqe : q = ps.length := by omega
                    subst hqe
                    clear hb
                    go_wp2_with fail
                    go_roundw
                    case rel => exact ⟨b + 1, by go_num, by omega, HB.out⟩
                    case measure => simp [intOf]; omega
          · have d2 : decide ((b : Int) ≤ (W.size : Int)) = false := decide_eq_false (by omega)
            go_wp2_with fail
            go_roundw
            case rel => exact ⟨a + 1, by go_num, by omega, HB.out⟩
            case measure => simp [intOf]; omega
      · have d1 : decide ((a : Int) ≤ (W.size : Int)) = false := decide_eq_false (by omega)
        have p0 : wr.cell? ⟨bx + 1, 0, none⟩ = some (.int .i64 pr) := blk_cell (blk_below HP6.out (below_then HB7.out HB.out)) 0
        have p1 : wr.cell? ⟨bx + 1, 1, none⟩ = some (.int .i64 pc) := blk_cell (blk_below HP6.out (below_then HB7.out HB.out)) 1
        have p2 : wr.cell? ⟨bx + 1, 2, none⟩ = some (.int .i64 pq) := blk_cell (blk_below HP6.out (below_then HB7.out HB.out)) 2
        have Q0 := Lib.hid p0
        have Q1 := Lib.hid p1
        have Q2 := Lib.hid p2
        have e1 : (bf nm pi pj == bf nm pi pj) = true := by simp
        have e2 : (vf nm pi pj == vf nm pi pj) = true := by simp
        have e3 : (Bf pr pc pq pi pj == Bf pr pc pq pi pj) = true := by simp
        have e4 : (Vf pr pc pq pi pj == Vf pr pc pq pi pj) = true := by simp
        clear p0 p1 p2
        go_wp2_with fail
        refine wp_region_below (by kernel_rfl) (by kernel_rfl) ?_
        repeat (first
          | (refine qv_skip (by rfl) ?_; simp only [Act.put, List.setIfInBounds_toArray, List.set_cons_zero, List.set_cons_succ])
          | (refine qv_val' (by rfl) ?_; apply Exists.intro; refine ⟨fun w5 hC => ?_, ?_⟩; (have qqr0 := below_cell hC Q0.out; have qqr1 := below_cell hC Q1.out; have qqr2 := below_cell hC Q2.out; go_simp; rfl); simp only [Act.put, List.setIfInBounds_toArray, List.set_cons_zero, List.set_cons_succ])
          | (refine qv_call' (by rfl) ?_; apply Exists.intro; apply Exists.intro; apply Exists.intro; refine ⟨fun w5 hC => ?_, fun w5 hC => ?_, ?_⟩; (go_simp; first | rfl | exact ⟨rfl, rfl⟩); (first | (go_at_call 12; exact calls_in hC (HAL.out.h1 w5 (below_then HB7.out (below_then HB.out hC)) _ _ _)) | (go_at_call 13; exact calls_in hC (HAL.out.h2 w5 (below_then HB7.out (below_then HB.out hC)) _ _ _)) | (go_at_call 14; exact calls_in hC (HAL.out.r1 w5 (below_then HB7.out (below_then HB.out hC)) _ _ _)) | (go_at_call 15; exact calls_in hC (HAL.out.r2 w5 (below_then HB7.out (below_then HB.out hC)) _ _ _)) | (go_at_call 16; exact calls_in hC (HAL.out.s1 w5 (below_then HB7.out (below_then HB.out hC)) _ _ _ _ _)) | (go_at_call 17; exact calls_in hC (HAL.out.s2 w5 (below_then HB7.out (below_then HB.out hC)) _ _ _ _ _)) | (go_at_call 18; exact calls_in hC (HAL.out.t1 w5 (below_then HB7.out (below_then HB.out hC)) _ _ _ _ _)) | (go_at_call 19; exact calls_in hC (HAL.out.t2 w5 (below_then HB7.out (below_then HB.out hC)) _ _ _ _ _)) | (go_at_call 9; exact calls_in hC (awake_any w5))); simp only [Act.put, List.setIfInBounds_toArray, List.set_cons_zero, List.set_cons_succ]))
        refine qv_nil ?_
        intro w5 hC
        have HBE := Lib.hid (below_then HU6.out (below_then HB7.out (below_then HB.out hC)))
        clear hC
        go_wp2_with fail
        go_ret
        exact ⟨rfl, HBE.out⟩
end Go.Proofs.YtbknkhcdfjiehaaGreat
