/-
  Ma: the walk of mean.New.
-/
import Derived.Test.YtbidpeggdhkahaaMp
import Derived.Test.YtbidpeggdhkahaaMn
set_option linter.unusedSimpArgs false
set_option linter.unusedVariables false
namespace Go.Proofs.Ytbidpeggdhkahaa
open Go.RowKit
attribute [local go_sem] max2_mxz max_mxz

def NewPost (w : World) (G : Gram) (W : ByteArray) (Ref : Prop) (Good : List Int → Prop) (e : Ending) (w' : World) : Prop :=
  Below w.heap.size w w' ∧ (((Ref ∨ 32 < W.size) ∧ e = .returned (.tuple #[.pointer none, .int .i64 1100])) ∨
    (∃ (t : TS) (fin : Rk × Rk), Good t.lev ∧ W.size ≤ 32 ∧ t.G = G ∧ t.W = W ∧ t.off = offG G ∧ e = .returned (.tuple #[.pointer (some ⟨t.p, 0, none⟩), .int .i64 0]) ∧ t.Fits ∧ StatL w.heap.size w' t ∧ (∀ b, t.R b → w.heap.size ≤ b) ∧ Rows w' t fin.1 fin.2 ∧ AllDone t fin))

def NewL1 (w2 : World) (G : Gram) (W : ByteArray) (vn vr vl : Value) (S : Nat) (cnt : Value) (wr : World) : Prop :=
  ∃ (k : Nat) (gs : List Nat) (vN : Value), cnt = .int .i64 k ∧ k ≤ G.names.length ∧ gs.length = k ∧ TabRel w2 G W vn vr vl S gs [] [] vN (.slice none 0 0) (.slice none 0 0) wr

def NewL2 (w2 : World) (G : Gram) (W : ByteArray) (vn vr vl : Value) (S : Nat) (gN : List Nat) (vN : Value) (cnt : Value) (wr : World) : Prop :=
  ∃ (r : Nat) (gP : List Nat) (aa : List (Nat × Nat × Nat)) (vP vA : Value), cnt = .int .i64 r ∧ r ≤ G.rules.length ∧ gP.length = rSum G.rules r ∧ aa.length = r ∧ TabRel w2 G W vn vr vl S gN gP aa vN vP vA wr
def NewL3 (w2 : World) (G : Gram) (W : ByteArray) (vn vr vl : Value) (S : Nat) (gN : List Nat) (vN : Value) (r : Nat) (x : Rul) (aa : List (Nat × Nat × Nat)) (vA : Value) (at_ cnt : Value) (wr : World) : Prop :=
  ∃ (c : Nat) (gP : List Nat) (vP : Value) (os : List Int), cnt = .int .i64 c ∧ c ≤ x.conj.length ∧ gP.length = rSum G.rules r + cSum x.conj c ∧ os = (List.range c).map (fun k => (offG G r k : Int)) ∧
    TabRel w2 G W vn vr vl S gN gP aa vN vP vA wr ∧ AtL wr (w2.heap.size + 1) at_ os gN gP aa
def NewL4 (w2 : World) (G : Gram) (W : ByteArray) (vn vr vl : Value) (S : Nat) (gN : List Nat) (vN : Value) (n m : Nat) (aa : List (Nat × Nat × Nat)) (vA at_ : Value) (os : List Int) (cnt : Value) (wr : World) : Prop :=
  ∃ (q : Nat) (gP : List Nat) (vP : Value), cnt = .int .i64 q ∧ q ≤ m ∧ gP.length = n + q ∧ TabRel w2 G W vn vr vl S gN gP aa vN vP vA wr ∧ AtL wr (w2.heap.size + 1) at_ os gN gP aa

def NewL5 (t : TS) (f : Nat → Nat → Rk × Rk) (W : ByteArray) (wb : World) (cnt : Value) (wr : World) : Prop :=
  ∃ l : Nat, cnt = .int .i64 l ∧ l ≤ W.size + 1 ∧ Upd t.R wb wr ∧ Rows wr t (f l 0).1 (f l 0).2
def NewL6 (t : TS) (f : Nat → Nat → Rk × Rk) (W : ByteArray) (wb : World) (l : Nat) (cnt : Value) (wr : World) : Prop :=
  ∃ i : Nat, cnt = .int .i64 i ∧ i + l ≤ W.size + 1 ∧ Upd t.R wb wr ∧ Rows wr t (f l i).1 (f l i).2
abbrev TabIs (w2 : World) (G : Gram) (W : ByteArray) (lev : List Int) (t : TS) : Prop := t.p = w2.heap.size ∧ t.lev = lev ∧ t.G = G ∧ t.W = W ∧ t.off = offG G ∧ t.Fits ∧ ∀ b, t.R b → w2.heap.size ≤ b
abbrev AllIs (t : TS) (f : Nat → Nat → Rk × Rk) (fin : Rk × Rk) : Prop := f 0 0 = (fun _ _ _ => 0, fun _ _ _ => 0) ∧
  (∀ l i : Nat, l + i ≤ t.W.size → SpanDone t i (i + l) (f l i) (f l (i + 1))) ∧ (∀ l : Nat, l ≤ t.W.size → f (l + 1) 0 = f l (t.W.size + 1 - l)) ∧ f (t.W.size + 1) 0 = fin
theorem new_span {w2 wb wr : World} {G : Gram} {W : ByteArray} {lev : List Int} {t : TS} {f : Nat → Nat → Rk × Rk} {fin : Rk × Rk} (h : TabIs w2 G W lev t) (z : AllIs t f fin) (s : Stat wb t) (u : Upd t.R wb wr) {i l : Nat} (r : Rows wr t (f l i).1 (f l i).2) (hil : i + l ≤ W.size) :
    Calls Try.prog 25 #[.pointer (some ⟨w2.heap.size, 0, none⟩), .int .i64 i, .int .i64 ((i : Int) + l)] wr (SpanPost wr t (f l (i + 1))) := by
  obtain ⟨h1, h2, h3, h4, h5, h6, h7⟩ := h
  obtain ⟨sq, s0, s1, s2⟩ := z.2.1 l i (by rw [h4]; omega)
  have := span_any (s.upd u) h6 r (i := i) (j := (i : Int) + l) (by omega) (by omega) (by rw [h4]; omega) sq s0 s1
  rw [s2, h1] at this
  exact this
theorem new_next {t : TS} {W : ByteArray} {f : Nat → Nat → Rk × Rk} {fin : Rk × Rk} (z : AllIs t f fin) (hW : t.W = W) {l : Nat} (hl : l ≤ W.size) : f (l + 1) 0 = f l (W.size + 1 - l) := by
  subst hW; exact z.2.2.1 l hl
theorem new_end {w w2 wb wr : World} {G : Gram} {W : ByteArray} {lev : List Int} {t : TS} {f : Nat → Nat → Rk × Rk} {fin : Rk × Rk} {Ref : Prop} {Good : List Int → Prop} (h : TabIs w2 G W lev t) (z : AllIs t f fin) (hb : Below w.heap.size w wb) (hlt : w2.heap.size < wb.heap.size) (hww : w.heap.size ≤ w2.heap.size)
    (s : StatL w.heap.size wb t) (u : Upd t.R wb wr) (r : Rows wr t (f (W.size + 1) 0).1 (f (W.size + 1) 0).2) (hg : Good lev) (hW : W.size ≤ 32) :
    NewPost w G W Ref Good (.returned (.tuple #[.pointer (some ⟨w2.heap.size, 0, none⟩), .int .i64 0])) wr := by
  obtain ⟨h1, h2, h3, h4, h5, h6, h7⟩ := h
  refine ⟨hb.trans (u.below (by have := hb.size; omega) (fun k hk => Nat.le_trans hww (h7 k hk))), .inr ⟨t, fin, by rw [h2]; exact hg, hW, h3, h4, h5, by rw [h1], h6, s.upd u, fun k hk => Nat.le_trans hww (h7 k hk), ?_, f, z⟩⟩
  have := z.2.2.2
  rw [h4] at this
  rw [this] at r
  exact r
theorem at_row {w : World} {G : Gram} {base g ka r : Nat} {x : Rul} {os : List Int} {gN gP : List Nat} {aa : List (Nat × Nat × Nat)} (h : AtL w base (.slice (some ⟨g, 0, none⟩) x.conj.length ka) os gN gP aa) (hg : base ≤ g) (hc : ∃ cur, w.heap[g]? = some (.cells cur 3 (0, 0)))
    (hx : G.rules[r]? = some x) (hos : os = (List.range x.conj.length).map (fun k => (offG G r k : Int))) (_ : aa.length = r) :
    base ≤ g ∧ g ∉ gN ∧ g ∉ gP ∧ (∃ cur, w.heap[g]? = some (.cells cur 3 (0, 0))) ∧ (∃ x', G.rules[r]? = some x' ∧ x.conj.length = x'.conj.length) ∧ ∀ c, c < x.conj.length → w.cell? ⟨g, c, none⟩ = some (.int .i64 (offG G r c)) := by
  have h1 := h.nN g rfl
  refine ⟨hg, h1.1, h1.2.1, hc, ⟨x, hx, rfl⟩, fun c hlt => ?_⟩
  have h2 : os[c]? = some (offG G r c : Int) := by rw [hos, List.getElem?_map, List.getElem?_range hlt]; rfl
  exact Own.one_at (enc := fun z => .int .i64 z) h.own h2

set_option maxRecDepth 100000 in
set_option maxHeartbeats 4000000 in
theorem new_any {w : World} (G : Gram) (W : ByteArray) {A A' : Option Addr} {c c' : Nat} (n1 : G.names.length ≤ c) (n2 : c ≤ 9223372036854775807) (n3 : Rd.str.C w A G.names) (n4 : G.rules.length ≤ c') (n5 : c' ≤ 9223372036854775807) (n6 : rulRd.C w A' G.rules)
    (Ref : Prop) (Good : List Int → Prop) (hfit : ∀ lev, Good lev → GFits G lev)
    (hS : ∀ w', Below w.heap.size w w' → Calls Try.prog 23 #[.agg #[.int .i64 G.start, .slice A G.names.length c, .slice A' G.rules.length c']] w' (StrataPost w' Ref Good))
    (hC : ∀ t : TS, Good t.lev → W.size ≤ 32 → t.G = G → t.W = W → t.off = offG G → t.Fits → ∃ fin, AllDone t fin) :
    Calls Try.prog 18 #[.agg #[.int .i64 G.start, .slice A G.names.length c, .slice A' G.rules.length c'], .string W] w (NewPost w G W Ref Good) := by
  have HS := Lib.hid hS
  have HC := Lib.hid hC
  clear hS hC
  go_enter Try.func18, Try.ntmps18
  go_wp2_with fail
  have hb0 : Below w.heap.size w (w.alloc (Obj.cells #[Value.int IntKind.i64 G.start, Value.slice A G.names.length c, Value.slice A' G.rules.length c'] 25)) := below_alloc' (below_refl _) _
  have B0 := heap_alloc_new w (Obj.cells #[Value.int IntKind.i64 G.start, Value.slice A G.names.length c, Value.slice A' G.rules.length c'] 25)
  refine (HS.out _ hb0).mono ?_
  generalize w.alloc (Obj.cells #[Value.int IntKind.i64 G.start, Value.slice A G.names.length c, Value.slice A' G.rules.length c'] 25) = w0 at hb0 B0 ⊢
  rintro e w1 ⟨hb1, ⟨hr, v, cc, rfl, hc1, hc2⟩ | ⟨AL, cp, lev, hg, rfl, l1, l2, hL⟩⟩
  · have HB := Lib.hid (below_then hb0 hb1)
    clear hb0 hb1 B0
    go_wp2
    go_ret2
    exact ⟨HB.out, .inl ⟨.inl hr, rfl⟩⟩
  · by_cases hW : 32 < W.size
    · have HB := Lib.hid (below_then hb0 hb1)
      have hW' : (32 : Int) < W.size := by omega
      have HW := Lib.hid hW
      clear hb0 hb1 B0 hW
      go_wp2
      go_ret2
      exact ⟨HB.out, .inl ⟨.inr HW.out, rfl⟩⟩
    · have hWd : decide ((32 : Int) < W.size) = false := by simp; omega
      have B1 := blk_below B0 hb1
      have x0 : w1.cell? ⟨w.heap.size, 0, none⟩ = some (.int .i64 G.start) := blk_cell B1 0
      have x1 : w1.cell? ⟨w.heap.size, 1, none⟩ = some (.slice A G.names.length c) := blk_cell B1 1
      have x2 : w1.cell? ⟨w.heap.size, 2, none⟩ = some (.slice A' G.rules.length c') := blk_cell B1 2
      have HS0 := Lib.hid hb0.size
      have HB1 := Lib.hid (below_then hb0 hb1)
      have HL := Lib.hid hL
      have HB := Lib.hid B1
      clear hb0 hb1 B0 B1 hL
      go_wp2_with fail
      clear x0 x1 x2
      have GF := hfit lev hg
      refine (copy_any G n1 n2 (n3.mono HB1.out) n4 n5 (n6.mono HB1.out) GF.K64 GF.rules ?_).mono ?_
      · intro x hx
        obtain ⟨r, hr, rfl⟩ := List.mem_iff_getElem.1 hx
        refine ⟨(GF.conj r _ (List.getElem?_eq_getElem hr)).2, fun y hy => ?_⟩
        obtain ⟨k, hk, rfl⟩ := List.mem_iff_getElem.1 hy
        exact GF.seq r _ k _ (List.getElem?_eq_getElem hr) (List.getElem?_eq_getElem hk)
      · rintro e w2 ⟨cs, rfl, hG, hb2⟩
        obtain ⟨An, cn, Ar, cr, hcs, m1, m2, m3, m4, m5, m6⟩ := gramRd_open (hG _ (Upd.refl _ _))
        obtain rfl : cs = #[.int .i64 G.start, .slice An G.names.length cn, .slice Ar G.rules.length cr] := Array.toList_inj.1 hcs
        have HB2 := Lib.hid (below_then HB1.out hb2)
        have HLL := Lib.hid (show ∀ w', Upd (fun b => b < w.heap.size) w2 w' → Rd.int.C w' AL lev from fun w' hu => HL.out w' ((Upd.of_below hb2).trans (hu.mono (fun b (hb : b < w.heap.size) => Nat.lt_of_lt_of_le hb HS0.out))))
        have HM6 := Lib.hid (show ∀ w', Upd (fun b => b < w.heap.size) w2 w' → rulRd.C w' Ar G.rules from fun w' hu => by
          obtain ⟨An', cn', Ar', cr', hcs', -, -, -, -, -, m6'⟩ := gramRd_open (hG w' (hu.mono (fun b (hb : b < w.heap.size) => Nat.lt_of_lt_of_le hb HB1.out.size)))
          simp only [List.cons.injEq, Value.slice.injEq, and_true, true_and] at hcs'
          rw [hcs'.2.1]
          exact m6')
        have HBX := Lib.hid (blk_below HB.out hb2)
        have HGG := Lib.hid hG
        clear hG hcs hb2 HB1 HL HB
        have y1 : w2.cell? ⟨w.heap.size, 1, none⟩ = some (.slice A G.names.length c) := blk_cell HBX.out 1
        have y2 : w2.cell? ⟨w.heap.size, 2, none⟩ = some (.slice A' G.rules.length c') := blk_cell HBX.out 2
        have ltw : w.heap.size < w2.heap.size := blk_lt HBX.out
        obtain ⟨S, hS⟩ : ∃ S : Nat, S = (W.size + 1) * (W.size + 1) := ⟨_, rfl⟩
        have hSb := sp_bd W.size S hS (by omega)
        have e1 := (sp_eq W.size S hS hSb.2).1
        have e2 := (sp_eq W.size S hS hSb.2).2
        have hmk := mk_run S hSb.2
        have HSS := Lib.hid hS
        clear hS
        have hK1 := GF.K1
        have hK64 := GF.K64
        go_wp2_with fail
        clear e1 e2 y1
        have hp0 := heap_alloc_new w2 (Obj.cells #[Value.int IntKind.i64 G.start, Value.slice An G.names.length cn, Value.slice Ar G.rules.length cr, Value.string W, Value.slice AL lev.length cp, Value.slice none 0 0, Value.slice none 0 0, Value.slice none 0 0] 86)
        have hbt := below_alloc' (below_refl w2) (Obj.cells #[Value.int IntKind.i64 G.start, Value.slice An G.names.length cn, Value.slice Ar G.rules.length cr, Value.string W, Value.slice AL lev.length cp, Value.slice none 0 0, Value.slice none 0 0, Value.slice none 0 0] 86)
        have hy2 := below_cell hbt y2
        have hs3 : w2.heap.size + 1 ≤ (w2.alloc (Obj.cells #[Value.int IntKind.i64 G.start, Value.slice An G.names.length cn, Value.slice Ar G.rules.length cr, Value.string W, Value.slice AL lev.length cp, Value.slice none 0 0, Value.slice none 0 0, Value.slice none 0 0] 86)).heap.size := by simp
        generalize w2.alloc (Obj.cells #[Value.int IntKind.i64 G.start, Value.slice An G.names.length cn, Value.slice Ar G.rules.length cr, Value.string W, Value.slice AL lev.length cp, Value.slice none 0 0, Value.slice none 0 0, Value.slice none 0 0] 86) = w3 at hp0 hbt hy2 hs3 ⊢
        have T0 : Hid (TabRel w2 G W (.slice An G.names.length cn) (.slice Ar G.rules.length cr) (.slice AL lev.length cp) S [] [] [] (.slice none 0 0) (.slice none 0 0) (.slice none 0 0) w3) :=
          ⟨hp0, ⟨Own.nil _ _ _ _, by simp, by simp⟩, ⟨Own.nil _ _ _ _, by simp, by simp⟩, by simp, ⟨Own.nil _ _ _ _, by simp⟩, by simp [Value.ownBlock], by simp [Value.ownBlock], hbt, hs3⟩
        clear hp0 hbt y2
        go_loopw [47] (fun cnt wr => NewL1 w2 G W (.slice An G.names.length cn) (.slice Ar G.rules.length cr) (.slice AL lev.length cp) S cnt wr) (fun cnt _ => G.names.length - (intOf cnt).toNat)
        case atStart => exact ⟨0, [], _, rfl, Nat.zero_le _, rfl, T0.out⟩
        case round =>
          clear T0
          obtain ⟨k, gs, vN, rfl, hk, hgl, T⟩ := hrel
          have HT := Lib.hid T
          clear T
          by_cases hlt : k < G.names.length
          · obtain ⟨Av, kv, ev, -, -, -⟩ := HT.out.N.own.shape
            rw [List.length_map, hgl] at ev
            subst ev
            have hlen5 : (gs.map (fun g => (g, S, S)) ++ [(wr.heap.size, S, S)]).length = k + 1 := by simp [hgl]
            have HL5 := Lib.hid hlen5
            have HGL := Lib.hid hgl
            have x5 : wr.cell? ⟨w2.heap.size, 5, none⟩ = some (.slice Av k kv) := blk_cell HT.out.p 5
            have lt5 : w2.heap.size < wr.heap.size := blk_lt HT.out.p
            have hb1 : (k : Int) < G.names.length := by omega
            clear hlen5 hgl
            go_wp2_with fail
            go_region_law
              (first | ((refine step_append_one (d := triRd) (base := w2.heap.size + 1) (by rfl) (.tmp 53) (.tmp 56) 84 46 _ 24 (by rfl) Try.underlying84 infoSl (by rfl) (by decide) (v := .slice Av k kv) (xs := gs.map (fun g => (g, S, S))) (by rfl) (HT.out.N.own.below (below_drew' (below_alloc' (below_alloc' (below_refl wr) _) _))) (wr.heap.size, S, S) #[.slice (some ⟨wr.heap.size, 0, none⟩) S S] (fun _ _ => rfl) (b := wr.heap.size + 1) (c := 1) (by rfl) (heap_alloc2_new wr (zRow S) (.cells #[.slice (some ⟨wr.heap.size, 0, none⟩) S S] 46)) (by rw [List.length_map, HGL.out]; omega) (by decide) (by simp only [World.size_drew, World.size_alloc]; omega) ?_); intro v5 w5 o5 g5 t5; obtain ⟨A5, k5, ev5, -, -, -⟩ := o5.shape; rw [HL5.out] at ev5; subst ev5; have O5 := Lib.hid o5; have G5 := Lib.hid g5; have T5 := Lib.hid t5; have q5 := blk_grown (blk_below HT.out.p (below_drew' (below_alloc' (below_alloc' (below_refl wr) _) _))) g5 (by intro e; have := (HT.out.N.own.base e.symm).1; omega); have u5 : w5.cell? ⟨w2.heap.size, 5, none⟩ = some (.slice Av k kv) := blk_cell q5 5; have f5 := blk_frozen q5 5; clear o5 g5 t5 q5))
            all_goals
              go_wp2_with fail
              go_roundw
              case rel => exact ⟨k + 1, gs ++ [wr.heap.size], _, by go_num, hlt, by simp [HGL.out], HT.out.moreN _ rfl O5.out G5.out T5.out⟩
              case measure => simp [intOf]; omega
          · have hkK : gs.length = G.names.length := by omega
            have HKK := Lib.hid hkK
            have hy2' := below_cell (HT.out.B.mono (Nat.le_refl _)) (show w2.cell? ⟨w.heap.size, 2, none⟩ = some (.slice A' G.rules.length c') from blk_cell HBX.out 2)
            have hrl := GF.rules
            clear hkK hgl
            go_wp2_with fail
            clear hy2'
            go_loopw [64] (fun cnt wr => NewL2 w2 G W (.slice An G.names.length cn) (.slice Ar G.rules.length cr) (.slice AL lev.length cp) S gs vN cnt wr) (fun cnt _ => G.rules.length - (intOf cnt).toNat)
            case atStart => exact ⟨0, [], [], _, _, rfl, Nat.zero_le _, rfl, rfl, HT.out⟩
            case round =>
              clear HT
              obtain ⟨r, gP, aa, vP, vA, rfl, hr, hgP, haa, T⟩ := hrel
              have HT := Lib.hid T
              have HGP := Lib.hid hgP
              have HAA := Lib.hid haa
              clear T hgP haa
              by_cases hlt : r < G.rules.length
              · have hx : G.rules[r]? = some G.rules[r] := List.getElem?_eq_getElem hlt
                obtain ⟨x, hxe⟩ : ∃ x, x = G.rules[r] := ⟨_, rfl⟩
                rw [← hxe] at hx
                clear hxe
                obtain ⟨ad, A1, c1, eA, lad, q0, q1, l3, l4, hCC⟩ := rul_at n6 hx
                have hbw : Below w.heap.size w wr := HB2.out.trans (HT.out.B.mono HB2.out.size)
                replace q0 := below_cell hbw q0
                replace q1 := below_cell hbw q1
                subst eA
                have hcj := (GF.conj r x hx).2
                have hcj1 := (GF.conj r x hx).1
                have b1 : (r : Int) < G.rules.length := by omega
                have HX := Lib.hid hx
                have HCC := Lib.hid hCC
                clear hCC hx hbw lad
                go_wp2_with fail
                have hb5 := below_alloc' (below_refl wr) (Obj.cells #[Value.int .i64 x.head, Value.slice A1 x.conj.length c1] 29)
                generalize (wr.alloc (Obj.cells #[Value.int .i64 x.head, Value.slice A1 x.conj.length c1] 29)) = w4 at hb5 ⊢
                have T4 := Lib.hid (HT.out.below hb5)
                clear hb5 q0 q1
                obtain ⟨wo, rfl⟩ : ∃ wo : World, wo = wr := ⟨_, rfl⟩
                go_loopw [13, 71] (fun at_ cnt wr => NewL3 w2 G W (.slice An G.names.length cn) (.slice Ar G.rules.length cr) (.slice AL lev.length cp) S gs vN r x aa vA at_ cnt wr) (fun _ cnt _ => x.conj.length - (intOf cnt).toNat)
                case atStart => exact ⟨0, gP, _, [], rfl, Nat.zero_le _, by simpa [cSum] using HGP.out, rfl, T4.out, ⟨Own.nil _ _ _ _, by simp [Value.ownBlock]⟩⟩
                case round =>
                  clear HT T4
                  obtain ⟨k, gP, vP, os, rfl, hk, hgP, hos, T, AT⟩ := hrel
                  have HT := Lib.hid T
                  have HA := Lib.hid AT
                  have HGP := Lib.hid hgP
                  have HOS := Lib.hid hos
                  by_cases hltk : k < x.conj.length
                  · have hy : x.conj[k]? = some x.conj[k] := List.getElem?_eq_getElem hltk
                    obtain ⟨y, hye⟩ : ∃ y, y = x.conj[k] := ⟨_, rfl⟩
                    rw [← hye] at hy
                    clear hye
                    obtain ⟨ad1, A2, c2, eA, lad, qq0, qq1, l5, l6, -⟩ := conj_at HCC.out hy
                    subst eA
                    have hbw : Below w.heap.size w wr := HB2.out.trans (HT.out.B.mono HB2.out.size)
                    have qa := below_cell hbw qq0
                    have qb := below_cell hbw qq1
                    have hsl := GF.seq r x k y HX.out hy
                    obtain ⟨Aa, ka, ea, -, -, -⟩ := HA.out.own.shape
                    have hosl : os.length = k := by rw [hos]; simp
                    rw [hosl] at ea
                    subst ea
                    obtain ⟨Ap, kp, ep, -, -, -⟩ := HT.out.P.own.shape
                    rw [List.length_map] at ep
                    subst ep
                    have hlen5 : (os ++ [(gP.length : Int)]).length = k + 1 := by simp [hosl]
                    have HL5 := Lib.hid hlen5
                    have HOL := Lib.hid hosl
                    have x6 : wr.cell? ⟨w2.heap.size, 6, none⟩ = some (.slice Ap gP.length kp) := blk_cell HT.out.p 6
                    have lt6 : w2.heap.size < wr.heap.size := blk_lt HT.out.p
                    have b1k : (k : Int) < x.conj.length := by omega
                    have HY := Lib.hid hy
                    clear hlen5 hosl hos hy hbw lad hgP T AT qq0 qq1
                    have hbc := below_alloc' (below_refl wr) (Obj.cells #[Value.bool y.neg, Value.slice A2 y.seq.length c2] 32)
                    have T1 := Lib.hid (HT.out.below hbc)
                    have A1' := Lib.hid (HA.out.below hbc)
                    have SZ := Lib.hid HT.out.sz
                    clear hbc
                    go_wp2_with (at_builtin; refine wpList_append_one (d := Rd.int) rfl (base := w2.heap.size + 1) (.tmp 75) (.tmp 81) 46 3 _ 8 (by rfl) Try.underlying46 infoInt (by rfl) (by decide) (v := .slice Aa k ka) (xs := os) (by rfl) (A1'.out.own.below (below_alloc' (below_refl _) _)) (gP.length : Int) #[.int .i64 gP.length] (fun _ _ => rfl) (b := wr.heap.size + 1) (c := 1) (by rfl) (heap_alloc2_new wr _ _) (by rw [HOL.out]; omega) (by decide) (by have := SZ.out; simp; omega) ?_; intro v5 w5 o5 g5 t5; obtain ⟨A5, k5, ev5, -, -, -⟩ := o5.shape; rw [HL5.out] at ev5; subst ev5; have q5 := blk_grown (blk_below (heap_alloc_new wr (Obj.cells #[Value.bool y.neg, Value.slice A2 y.seq.length c2] 32)) (below_alloc' (below_refl _) _)) g5 (by intro e; have := (HA.out.own.base e.symm).2; omega); have u15 := blk_cell q5 1; have O5 := Lib.hid (TabRel.atMore T1.out A1'.out (by omega) o5 g5 t5); clear o5 g5 t5 q5)
                    clear qa qb x6 u15 T1 A1'
                    have HG0 := Lib.hid (show gP.length = rSum G.rules r + cSum x.conj k from HGP.out)
                    clear HT HA HOL
                    go_loopw [87] (fun cnt wr => NewL4 w2 G W (.slice An G.names.length cn) (.slice Ar G.rules.length cr) (.slice AL lev.length cp) S gs vN gP.length (y.seq.length + 1) aa vA (.slice A5 (k + 1) k5) (os ++ [(gP.length : Int)]) cnt wr) (fun cnt _ => y.seq.length + 1 - (intOf cnt).toNat)
                    case atStart => exact ⟨0, gP, _, rfl, Nat.zero_le _, rfl, O5.out.1, O5.out.2⟩
                    case round =>
                      clear O5
                      obtain ⟨q, gP', vP, rfl, hq, hgP, T, AT⟩ := hrel
                      have HT := Lib.hid T
                      have HA := Lib.hid AT
                      clear T AT
                      by_cases hltq : q < y.seq.length + 1
                      · obtain ⟨Av, kv, ev, -, -, -⟩ := HT.out.P.own.shape
                        rw [List.length_map] at ev
                        subst ev
                        obtain ⟨np, hnp⟩ : ∃ np : Nat, np = gP'.length := ⟨_, rfl⟩
                        rw [← hnp] at HT
                        have hlen5 : (gP'.map (fun g => (g, S, S)) ++ [(wr.heap.size, S, S)]).length = np + 1 := by simp [hnp]
                        have HL6 := Lib.hid hlen5
                        have HGL := Lib.hid hnp
                        have HGQ := Lib.hid hgP
                        have hQb := Lib.hid (new_Q GF HX.out hltk HY.out HG0.out hltq (hnp.trans hgP))
                        have y6 : wr.cell? ⟨w2.heap.size, 6, none⟩ = some (.slice Av np kv) := blk_cell HT.out.p 6
                        have ltp : w2.heap.size < wr.heap.size := blk_lt HT.out.p
                        have hb1q : (q : Int) < (y.seq.length : Int) + 1 := by omega
                        have SZ := Lib.hid HT.out.sz
                        clear hlen5 hnp hgP
                        go_wp2_with fail
                        go_region_law
                          (first | ((refine step_append_one (d := triRd) (base := w2.heap.size + 1) (by rfl) (.tmp 93) (.tmp 96) 84 46 _ 24 (by rfl) Try.underlying84 infoSl (by rfl) (by decide) (v := .slice Av np kv) (xs := gP'.map (fun g => (g, S, S))) (by rfl) (HT.out.P.own.below (below_drew' (below_alloc' (below_alloc' (below_refl wr) _) _))) (wr.heap.size, S, S) #[.slice (some ⟨wr.heap.size, 0, none⟩) S S] (fun _ _ => rfl) (b := wr.heap.size + 1) (c := 1) (by rfl) (heap_alloc2_new wr (zRow S) (.cells #[.slice (some ⟨wr.heap.size, 0, none⟩) S S] 46)) (by rw [List.length_map, ← HGL.out]; have := hQb.out; omega) (by decide) (by have := SZ.out; simp only [World.size_drew, World.size_alloc]; omega) ?_); intro v6 w6 o6 g6 t6; obtain ⟨A6, k6, ev6, -, -, -⟩ := o6.shape; rw [HL6.out] at ev6; subst ev6; have O6 := Lib.hid o6; have G6 := Lib.hid g6; have T6 := Lib.hid t6; have q6 := blk_grown (blk_below HT.out.p (below_drew' (below_alloc' (below_alloc' (below_refl wr) _) _))) g6 (by intro e; have := (HT.out.P.own.base e.symm).1; omega); have u6 : w6.cell? ⟨w2.heap.size, 6, none⟩ = some (.slice Av np kv) := blk_cell q6 6; have f6 := blk_frozen q6 6; clear o6 g6 t6 q6))
                        all_goals
                          go_wp2_with fail
                          go_roundw
                          case rel => exact ⟨q + 1, gP' ++ [wr.heap.size], _, by go_num, hltq, by simp [HGQ.out]; omega, HT.out.moreP _ rfl O6.out G6.out T6.out, AtL.moreP HT.out HA.out _ rfl G6.out⟩
                          case measure => simp [intOf]; omega
                      · have hqe : q = y.seq.length + 1 := by omega
                        have hgP2 : gP'.length = rSum G.rules r + cSum x.conj (k + 1) := by rw [hgP, hqe, HG0.out, cSum_succ HY.out]; omega
                        have HGQ := Lib.hid hgP2
                        clear hgP2 hgP
                        go_wp2_with fail
                        go_roundw
                        case rel =>
                          refine ⟨k + 1, gP', vP, _, by go_num, hltk, HGQ.out, ?_, HT.out, HA.out⟩
                          rw [List.range_succ, List.map_append, ← HOS.out]
                          simp only [List.map_cons, List.map_nil, offG, HX.out, HG0.out]
                        case measure => simp [intOf]; omega
                  · obtain rfl : k = x.conj.length := by omega
                    have hosl : os.length = x.conj.length := by rw [hos]; simp
                    obtain ⟨ga, ka, ea, hga, hgc, -, -⟩ := HA.out.own.form (by omega)
                    rw [hosl] at ea
                    subst ea
                    have HR := Lib.hid (at_row HA.out hga hgc HX.out HOS.out HAA.out)
                    have hgP2 : gP.length = rSum G.rules (r + 1) := by rw [hgP, rSum_succ HX.out]
                    have HGQ := Lib.hid hgP2
                    obtain ⟨Av, kv, ev, -, -, -⟩ := HT.out.A.own.shape
                    rw [HAA.out] at ev
                    subst ev
                    have hlen5 : (aa ++ [(ga, x.conj.length, ka)]).length = r + 1 := by simp [HAA.out]
                    have HL6 := Lib.hid hlen5
                    have y7 : wr.cell? ⟨w2.heap.size, 7, none⟩ = some (.slice Av r kv) := blk_cell HT.out.p 7
                    have ltp : w2.heap.size < wr.heap.size := blk_lt HT.out.p
                    have SZ := Lib.hid HT.out.sz
                    clear hlen5 hgP2 hgP hos hosl T AT HA hgc
                    go_wp2_with (at_builtin; refine wpList_append_one (d := triRd) rfl (base := w2.heap.size + 1) (.tmp 106) (.tmp 108) 84 46 _ 24 (by rfl) Try.underlying84 infoSl (by rfl) (by decide) (v := .slice Av r kv) (xs := aa) (by rfl) (HT.out.A.own.below (below_alloc' (below_refl _) _)) (ga, x.conj.length, ka) #[.slice (some ⟨ga, 0, none⟩) x.conj.length ka] (fun _ _ => rfl) (b := wr.heap.size) (c := 1) (by rfl) (heap_alloc_new wr _) (by rw [HAA.out]; omega) (by decide) (by have := SZ.out; simp; omega) ?_; intro v6 w6 o6 g6 t6; obtain ⟨A6, k6, ev6, -, -, -⟩ := o6.shape; rw [HL6.out] at ev6; subst ev6; have O6 := Lib.hid o6; have G6 := Lib.hid g6; have T6 := Lib.hid t6; have q6 := blk_grown (blk_below HT.out.p (below_alloc' (below_refl wr) _)) g6 (by intro e; have := (HT.out.A.own.base e.symm).1; omega); have u7 : w6.cell? ⟨w2.heap.size, 7, none⟩ = some (.slice Av r kv) := blk_cell q6 7; have f7 := blk_frozen q6 7; clear o6 g6 t6 q6)
                    go_roundw
                    case rel => exact ⟨r + 1, gP, _, _, _, by go_num, hlt, HGQ.out, HL6.out, TabRel.moreA HT.out _ (by rw [HAA.out]; exact HR.out) rfl O6.out G6.out T6.out⟩
                    case measure => simp [intOf]; omega
              · obtain rfl : r = G.rules.length := by omega
                obtain ⟨t, ht, tl, tG, tW, tO, TF, TS', TR', tlo⟩ := new_table HT.out HB2.out.size HM6.out HLL.out GF (by omega) HSS.out HKK.out HGP.out HAA.out
                obtain ⟨fin, f, f0, f1, f2, f3⟩ := HC.out t (by rw [tl]; exact hg) (by omega) tG tW tO TF
                have HBB := Lib.hid (HB2.out.trans (HT.out.B.mono HB2.out.size))
                have HLT := Lib.hid (blk_lt HT.out.p)
                have HZ := Lib.hid (And.intro f0 (And.intro f1 (And.intro f2 f3)))
                have HTT := Lib.hid (And.intro ht (And.intro tl (And.intro tG (And.intro tW (And.intro tO (And.intro TF tlo))))))
                have TSH := Lib.hid TS'
                have TRH := Lib.hid TR'
                clear HT f0 f1 f2 f3 ht tl tG tW tO TF tlo TS' TR' HLL HC HS
                go_wp2_with fail
                obtain ⟨wb, rfl⟩ : ∃ wb : World, wb = wr := ⟨_, rfl⟩
                go_loopw [116] (fun cnt wr => NewL5 t f W wb cnt wr) (fun cnt _ => W.size + 1 - (intOf cnt).toNat)
                case atStart => exact ⟨0, rfl, Nat.zero_le _, Upd.refl _ _, by rw [HZ.out.1]; exact TRH.out⟩
                case round =>
                  obtain ⟨l, rfl, hl, HU, HR⟩ := hrel
                  have HUH := Lib.hid HU
                  have HRH := Lib.hid HR
                  clear HU HR
                  by_cases hltl : l < W.size + 1
                  · have b5 : (l : Int) < (W.size : Int) + 1 := by omega
                    have e5 : IntKind.i64.wrap ((W.size : Int) + 1 - (l : Int)) = ((W.size + 1 - l : Nat) : Int) := by rw [IntWalk.i64_in _ (by omega)]; omega
                    go_wp2_with fail
                    obtain ⟨w9, rfl⟩ : ∃ w9 : World, w9 = wr := ⟨_, rfl⟩
                    go_loopw [124] (fun cnt wr => NewL6 t f W wb l cnt wr) (fun cnt _ => W.size + 1 - l - (intOf cnt).toNat)
                    case atStart => exact ⟨0, rfl, by omega, HUH.out, HRH.out⟩
                    case round =>
                      clear HUH HRH e5
                      obtain ⟨i, rfl, hi, HU, HR⟩ := hrel
                      have HUH := Lib.hid HU
                      have HRH := Lib.hid HR
                      clear HU HR
                      by_cases hlti : i < W.size + 1 - l
                      · have b6 : (i : Int) < ((W.size + 1 - l : Nat) : Int) := by omega
                        have hsum : IntKind.i64.wrap ((i : Int) + (l : Int)) = (i : Int) + l := IntWalk.i64_in _ (by omega)
                        have CS := Lib.hid (new_span HTT.out HZ.out TSH.out.stat HUH.out HRH.out (i := i) (l := l) (by omega))
                        go_wp2_with fail
                        refine CS.out.mono ?_
                        rintro e w5 ⟨rfl, u5, r5⟩
                        have U5 := Lib.hid u5
                        have R5 := Lib.hid r5
                        clear u5 r5
                        go_wp2_with fail
                        go_roundw
                        case rel => exact ⟨i + 1, by go_num, by omega, HUH.out.trans U5.out, R5.out⟩
                        case measure => simp [intOf]; omega
                      · have b6 : decide ((i : Int) < ((W.size + 1 - l : Nat) : Int)) = false := by simp; omega
                        have hie : i = W.size + 1 - l := by omega
                        have NX := Lib.hid (show Rows wr t (f (l + 1) 0).1 (f (l + 1) 0).2 by rw [new_next HZ.out HTT.out.2.2.2.1 (l := l) (by omega), ← hie]; exact HRH.out)
                        go_wp2_with fail
                        go_roundw
                        case rel => exact ⟨l + 1, by go_num, by omega, HUH.out, NX.out⟩
                        case measure => simp [intOf]; omega
                  · have b5 : decide ((l : Int) < (W.size : Int) + 1) = false := by simp; omega
                    have hle : l = W.size + 1 := by omega
                    go_wp2_with fail
                    go_ret2
                    refine new_end HTT.out HZ.out HBB.out HLT.out (Nat.le_of_lt ltw) TSH.out HUH.out ?_ hg (by omega)
                    rw [← hle]
                    exact HRH.out
end Go.Proofs.Ytbidpeggdhkahaa
