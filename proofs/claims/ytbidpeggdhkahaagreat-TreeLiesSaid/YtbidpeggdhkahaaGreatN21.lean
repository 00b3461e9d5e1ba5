/-
  N21: the document's own table: NewTable, of a grammar that may be, a text that is not too long.
-/
import Derived.Test.YtbidpeggdhkahaaGreatA6
import Derived.Test.YtbidpeggdhkahaaGreatN20
set_option linter.unusedSimpArgs false
set_option linter.unusedVariables false
namespace Go.Proofs.YtbidpeggdhkahaaGreat
open Go.RowKit

/-- The meaning is there. -/
theorem truth_exists {G : Gram} {W : ByteArray} {lev : List Int} (hg : GoodLev G lev) (hW : W.size ≤ 32) : ∃ T, Truth G W T := by
  have GF := gfits_of (mayG hg.may) hg.len
  have F : TS.Fits ⟨0, W, G, lev, none, fun _ => none, fun _ _ => none, 0, 0, 0, fun h => 2 * h, fun q => 2 * q + 1, fun _ => 0, offG G, qG G, none, 0, 0, 0, 0, fun _ => 0, fun _ => 0, fun _ => 0⟩ :=
    ⟨hW, GF.K64, GF.rules, GF.conj, GF.seq, GF.sym, GF.head, hg.len, fun r x c y hx hy => off_lt (pos := y.seq.length) ⟨hx, hy, Nat.le_refl _⟩, GF.Q, fun h h' _ _ e => by simp only at e; omega, fun h h' _ _ e => by simp only at e; omega, fun h q _ _ => by simp only; omega⟩
  have H : Law ⟨0, W, G, lev, none, fun _ => none, fun _ _ => none, 0, 0, 0, fun h => 2 * h, fun q => 2 * q + 1, fun _ => 0, offG G, qG G, none, 0, 0, 0, 0, fun _ => 0, fun _ => 0, fun _ => 0⟩ := ⟨F, hg, rfl⟩
  obtain ⟨fin, hf⟩ := all_exist H
  exact ⟨fin, Truth.of_sol H (sol_of H hf)⟩

def rowRd : Rd (Nat × Nat × Nat) := Rd.val (fun x => .slice (some ⟨x.1, 0, none⟩) x.2.1 x.2.2) (fun _ => rfl)
theorem flat_row : Flat rowRd := fun _ _ _ _ h => h
def tblO (G : Gram) (W : ByteArray) (A : Option Addr) (c : Nat) (A' : Option Addr) (c' : Nat) (S : Nat) (v5 v6 v7 : Value) : Obj := .cells #[.int .i64 G.start, .slice A G.names.length c, .slice A' G.rules.length c', .string W, .int .i64 S, v5, v6, v7] 89 (0, 0)
/-- The rows of places, so far. -/
structure CjL (G : Gram) (w : World) (base : Nat) (v : Value) (aa : List (Nat × Nat × Nat)) (wr : World) : Prop where
  own : Own rowRd 84 base wr v aa
  row : ∀ (k : Nat) (x : Rul), k < aa.length → G.rules[k]? = some x → ∃ (b ca : Nat) (cur : Array Value), aa[k]? = some (b, x.conj.length, ca) ∧ base ≤ b ∧ wr.heap[b]? = some (.cells cur 3 (0, 0)) ∧ ∀ c, c < x.conj.length → cur[c]? = some (.int .i64 (offG G k c))
theorem CjL.upd {G : Gram} {w wr w1 : World} {base : Nat} {v : Value} {aa : List (Nat × Nat × Nat)} {R : Nat → Prop} (h : CjL G w base v aa wr) (hle : aa.length ≤ G.rules.length) (hu : Upd R wr w1) (hv : ∀ b, v.ownBlock = some b → ¬ R b) (hr : ∀ a ∈ aa, ¬ R a.1) : CjL G w base v aa w1 := by
  refine ⟨h.own.flat_upd flat_row hu hv, fun k x hk hx => ?_⟩
  obtain ⟨b, ca, cur, e1, e2, e3, e4⟩ := h.row k x hk hx
  exact ⟨b, ca, cur, e1, e2, (hu.block b (blk_lt e3) (hr _ (List.mem_of_getElem? e1))).trans e3, e4⟩
theorem CjL.more {G : Gram} {w wr w1 : World} {base tp : Nat} {v v1 : Value} {aa : List (Nat × Nat × Nat)} {vc : Value} {os : List Int} {x : Rul} {g ca : Nat} (h : CjL G w base v aa wr) (hb : tp < base) (hx : G.rules[aa.length]? = some x) (ho : Own Rd.int 3 base wr vc os) (hv : vc = .slice (some ⟨g, 0, none⟩) x.conj.length ca) (hos : os = (List.range x.conj.length).map (fun q => (offG G aa.length q : Int))) (h0 : 0 < x.conj.length)
    (ho1 : Own rowRd 84 base w1 v1 (aa ++ [(g, x.conj.length, ca)])) (hg : wr.grownBy w1 v.ownBlock) (u : Value) : CjL G w base v1 (aa ++ [(g, x.conj.length, ca)]) (w1.setCell ⟨tp, 6, none⟩ u) := by
  have hu : Upd (fun b => v.ownBlock = some b ∨ b = tp) wr (w1.setCell ⟨tp, 6, none⟩ u) := ((Upd.of_grown hg).mono (fun k hk => .inl hk)).setCell (p := ⟨tp, 6, none⟩) (.inr rfl) u
  refine ⟨ho1.flat_upd flat_row ((Upd.refl _ w1).setCell (R := fun b => b = tp) (p := ⟨tp, 6, none⟩) rfl u) (fun b hbb e => by have := (ho1.base hbb).1; omega), fun k y hk hy => ?_⟩
  have keep : ∀ {b : Nat} {cur : Array Value}, base ≤ b → wr.heap[b]? = some (.cells cur 3 (0, 0)) → (w1.setCell ⟨tp, 6, none⟩ u).heap[b]? = some (.cells cur 3 (0, 0)) := fun {b cur} hbb hc => (hu.block b (blk_lt hc) (by
    rintro (e | e)
    · obtain ⟨cur', hc'⟩ := own_block_type h.own e
      exact blk_type_ne hc hc' (by decide) rfl
    · omega)).trans hc
  by_cases e : k = aa.length
  · subst e
    rw [hx] at hy
    cases hy
    subst hv
    obtain ⟨cur, hc⟩ := own_block_type ho (b := g) rfl
    refine ⟨g, ca, cur, by simp, (ho.base (b := g) rfl).1, keep (ho.base (b := g) rfl).1 hc, fun q hq => ?_⟩
    have h1 := ho.one_at (i := q) (x := (offG G aa.length q : Int)) (by rw [hos]; simp [hq])
    rw [blk_cell hc] at h1
    exact h1
  · have hk' : k < aa.length := by simp at hk; omega
    obtain ⟨b, ca', cur, e1, e2, e3, e4⟩ := h.row k y hk' hy
    exact ⟨b, ca', cur, by rw [List.getElem?_append_left hk']; exact e1, e2, keep e2 e3, e4⟩
theorem CjL.rows_lt {G : Gram} {w wr : World} {base : Nat} {v : Value} {aa : List (Nat × Nat × Nat)} (h : CjL G w base v aa wr) (hle : aa.length ≤ G.rules.length) : ∀ a ∈ aa, base ≤ a.1 ∧ a.1 < wr.heap.size ∧ ∃ cur, wr.heap[a.1]? = some (.cells cur 3 (0, 0)) := by
  intro a ha
  obtain ⟨k, hk⟩ := List.getElem?_of_mem ha
  have hkl := (List.getElem?_eq_some_iff.1 hk).1
  obtain ⟨b, ca, cur, e1, e2, e3, -⟩ := h.row k _ hkl (List.getElem?_eq_getElem (by omega))
  rw [hk] at e1
  cases e1
  exact ⟨e2, blk_lt e3, cur, e3⟩
def newT (G : Gram) (W : ByteArray) (A : Option Addr) (c : Nat) (A' : Option Addr) (c' tp n1 L1 cbk kv n2 L2 : Nat) (aa : List (Nat × Nat × Nat)) : RT := ⟨tp, G, W, A, c, A', c', n1, L1, cbk, kv, fun k => (aa.getD k (0, 0, 0)).1, fun k => (aa.getD k (0, 0, 0)).2.2, n2, L2⟩
theorem new_rtat {G : Gram} {W : ByteArray} {A : Option Addr} {c : Nat} {A' : Option Addr} {c' S tp n1 L1 cbk kv n2 L2 base : Nat} {aa : List (Nat × Nat × Nat)} {w0 wx : World} (hS : S = (W.size + 1) * (W.size + 1)) (hL1 : L1 = G.names.length * S) (hL2 : L2 = qG G * S) (hal : aa.length = G.rules.length)
    (hP : wx.heap[tp]? = some (tblO G W A c A' c' S (.slice (some ⟨n1, 0, none⟩) L1 L1) (.slice (some ⟨cbk, 0, none⟩) aa.length kv) (.slice (some ⟨n2, 0, none⟩) L2 L2))) (hC : CjL G w0 base (.slice (some ⟨cbk, 0, none⟩) aa.length kv) aa wx) (n6 : rulRd.C wx A' G.rules) : RTAt wx (newT G W A c A' c' tp n1 L1 cbk kv n2 L2 aa) := by
  have e5 : (newT G W A c A' c' tp n1 L1 cbk kv n2 L2 aa).G.names.length * (newT G W A c A' c' tp n1 L1 cbk kv n2 L2 aa).S = L1 := by rw [hL1, hS]; rfl
  have e7 : qG (newT G W A c A' c' tp n1 L1 cbk kv n2 L2 aa).G * (newT G W A c A' c' tp n1 L1 cbk kv n2 L2 aa).S = L2 := by rw [hL2, hS]; rfl
  refine ⟨blk_cell hP 1, blk_cell hP 2, blk_cell hP 3, ?_, ?_, ?_, ?_, n6, fun r x hx => ?_⟩
  · rw [show (newT G W A c A' c' tp n1 L1 cbk kv n2 L2 aa).S = S from hS.symm]; exact blk_cell hP 4
  · rw [e5]; exact blk_cell hP 5
  · have := blk_cell hP 6
    rw [show (newT G W A c A' c' tp n1 L1 cbk kv n2 L2 aa).G.rules.length = aa.length from hal.symm]
    exact this
  · rw [e7]; exact blk_cell hP 7
  · obtain ⟨b, ca, cur, e1, e2, e3, e4⟩ := hC.row r x (by rw [hal]; exact (List.getElem?_eq_some_iff.1 hx).1) hx
    have hg : aa.getD r (0, 0, 0) = (b, x.conj.length, ca) := by simp [List.getD, e1]
    have h1 := hC.own.one_at e1
    refine ⟨?_, fun q hq => ?_⟩
    · simp only [newT, hg]
      exact h1
    · simp only [newT, hg]
      rw [blk_cell e3]
      exact e4 q hq
section
variable (G : Gram) (W : ByteArray) (A : Option Addr) (c : Nat) (A' : Option Addr) (c' S : Nat) (w : World) (bg tp : Nat)
structure NTS (v : Value) (aa : List (Nat × Nat × Nat)) (wr : World) : Prop where
  p : wr.heap[tp]? = some (tblO G W A c A' c' S (.slice none 0 0) v (.slice none 0 0))
  cj : CjL G w (tp + 1) v aa wr
  U : Below w.heap.size w wr
def NT1 (s10 cnt : Value) (wr : World) : Prop := ∃ (r : Nat) (v : Value) (aa : List (Nat × Nat × Nat)), cnt = .int .i64 r ∧ s10 = .int .i64 (rSum G.rules r) ∧ r ≤ G.rules.length ∧ aa.length = r ∧ NTS G W A c A' c' S w tp v aa wr
def NT2 (r : Nat) (x : Rul) (v : Value) (aa : List (Nat × Nat × Nat)) (s10 s12 cnt : Value) (wr : World) : Prop := ∃ (k : Nat) (vc : Value) (os : List Int), cnt = .int .i64 k ∧ s12 = vc ∧ s10 = .int .i64 ((rSum G.rules r + cSum x.conj k : Nat) : Int) ∧ k ≤ x.conj.length ∧ os = (List.range k).map (fun q => (offG G r q : Int)) ∧ Own Rd.int 3 (tp + 1) wr vc os ∧ (∀ b, vc.ownBlock = some b → ∀ a ∈ aa, a.1 ≠ b) ∧ NTS G W A c A' c' S w tp v aa wr
end

def NT3 (w8 : World) (t : RT) (T : Rk × Rk) (lev : List Int) (cnt : Value) (wr : World) : Prop := ∃ (l : Nat) (st : Rk × Rk), cnt = .int .i64 l ∧ l ≤ t.G.names.length + 1 ∧ FInv t.G t.W T lev l st ∧ FWd w8 t wr st
/-- A table's rows hold the true ranks. -/
structure RanksIn (t : RT) (T st : Rk × Rk) : Prop where
  n : ∀ h (i j : Int), h < t.G.names.length → 0 ≤ i → i ≤ j → j ≤ t.W.size → st.1 h i j = T.1 h i j
  p : ∀ r c pos x y (i j : Int), PlG t.G r c pos x y → 0 ≤ i → i ≤ j → j ≤ t.W.size → st.2 (offG t.G r c + pos) i j = T.2 (offG t.G r c + pos) i j
/-- Its blocks are new. -/
structure RLow (lo : Nat) (t : RT) : Prop where
  p : lo ≤ t.p
  nb : lo ≤ t.nb
  rb : lo ≤ t.rb
  cb : lo ≤ t.cb
  ar : ∀ (r : Nat) (x : Rul), t.G.rules[r]? = some x → lo ≤ t.ar r
/-- It lies still while elder blocks turn. -/
theorem RTAt.far {w w' : World} {t : RT} {lo : Nat} (A : RTAt w t) (L : RLow lo t) (hu : Upd (fun b => b < lo) w w') (hr : rulRd.C w' t.Ar t.G.rules) : RTAt w' t := by
  have hp : ¬ t.p < lo := Nat.not_lt.2 L.p
  exact ⟨hu.cell A.c1 hp, hu.cell A.c2 hp, hu.cell A.c3 hp, hu.cell A.c4 hp, hu.cell A.c5 hp, hu.cell A.c6 hp, hu.cell A.c7 hp, hr, fun r x hx => ⟨hu.cell (A.cj r x hx).1 (Nat.not_lt.2 L.cb), fun c hc => hu.cell ((A.cj r x hx).2 c hc) (Nat.not_lt.2 (L.ar r x hx))⟩⟩
theorem FlatAt.far {w w' : World} {t : RT} {b N lo : Nat} {f : Rk} (h : FlatAt w t b N f) (hu : Upd (fun b => b < lo) w w') (hb : lo ≤ b) : FlatAt w' t b N f := fun q i j h1 h2 h3 h4 h5 => by
  obtain ⟨a, c⟩ := h q i j h1 h2 h3 h4 h5
  exact ⟨hu.cell a (Nat.not_lt.2 hb), hu.froz a c (Nat.not_lt.2 hb)⟩
/-- What NewTable answers where there is a table. -/
def NewGood (w : World) (G : Gram) (W : ByteArray) (A' : Option Addr) (e : Ending) (w' : World) : Prop := ∃ (t : RT) (T st : Rk × Rk), t.G = G ∧ t.W = W ∧ t.Fits ∧ Truth t.G t.W T ∧ RTAt w' t ∧ FlatAt w' t t.nb t.G.names.length st.1 ∧ FlatAt w' t t.rb (qG t.G) st.2 ∧ RanksIn t T st ∧ e = .returned (.tuple #[.pointer (some ⟨t.p, 0, none⟩), .int .i64 0]) ∧ Below w.heap.size w w' ∧ RLow w.heap.size t ∧ t.Ar = A'

set_option maxRecDepth 100000 in
set_option maxHeartbeats 16000000 in
theorem rnew_good {w : World} {G : Gram} {W : ByteArray} {A A' : Option Addr} {c c' : Nat} (hm : mayB G = true) (hN : ¬ NegCyc (edgesOf G)) (hW : W.size ≤ 32) (n6 : rulRd.C w A' G.rules)
    (hMay : ∀ w1, Below w.heap.size w w1 → Calls Tryz.prog 60 #[gVal G A c A' c'] w1 fun e w' => e = .returned (.bool true) ∧ Below w1.heap.size w1 w') :
    Calls Tryz.prog 14 #[gVal G A c A' c', .string W] w (NewGood w G W A') := by
  have M := mayG hm
  have hK := M.K64
  have hRL := M.rules
  have hb0 : Below w.heap.size w (w.alloc (Obj.cells #[Value.int .i64 G.start, Value.slice A G.names.length c, Value.slice A' G.rules.length c'] 25)) := below_alloc' (below_refl w) _
  have B0 := heap_alloc_new w (Obj.cells #[Value.int .i64 G.start, Value.slice A G.names.length c, Value.slice A' G.rules.length c'] 25)
  have HST := Lib.hid (rstrata_good hm hN (n6.mono hb0) (fun w1 h1 => hMay w1 (below_trans hb0 h1)))
  have N6 := Lib.hid n6
  obtain ⟨bg, hbg⟩ : ∃ bg, bg = w.heap.size := ⟨_, rfl⟩
  have HBG := Lib.hid hbg
  have HG := Lib.hid B0
  have HB0 := Lib.hid hb0
  clear n6 hb0 B0 hMay
  go_enter Tryz.func14, Tryz.ntmps14
  go_wp2_with fail
  rw [← hbg] at HG ⊢
  clear hbg
  generalize w.alloc (Obj.cells #[Value.int .i64 G.start, Value.slice A G.names.length c, Value.slice A' G.rules.length c'] 25) = w0 at HG HB0 HST ⊢
  have x0 : w0.cell? ⟨bg, 0, none⟩ = some (.int .i64 G.start) := blk_cell HG.out 0
  have x1 : w0.cell? ⟨bg, 1, none⟩ = some (.slice A G.names.length c) := blk_cell HG.out 1
  have x2 : w0.cell? ⟨bg, 2, none⟩ = some (.slice A' G.rules.length c') := blk_cell HG.out 2
  have dW : decide ((32 : Int) < (W.size : Int)) = false := decide_eq_false (by omega)
  go_upto_region 4 with (first | (go_at_call 27; refine HST.out.mono ?_; rintro e w1 ⟨Al, cl, lev, hgl, rfl, hlc, hb1⟩; have HGL := Lib.hid hgl; have HLC := Lib.hid hlc; have HB1 := Lib.hid hb1; clear hgl hlc hb1) | fail)
  clear x0 x1 x2
  have HG1 := Lib.hid (blk_below HG.out HB1.out)
  have HB2 := Lib.hid (below_trans HB0.out HB1.out)
  have x0 : w1.cell? ⟨bg, 0, none⟩ = some (.int .i64 G.start) := blk_cell HG1.out 0
  have x1 : w1.cell? ⟨bg, 1, none⟩ = some (.slice A G.names.length c) := blk_cell HG1.out 1
  have x2 : w1.cell? ⟨bg, 2, none⟩ = some (.slice A' G.rules.length c') := blk_cell HG1.out 2
  obtain ⟨S, hS⟩ : ∃ S, S = (W.size + 1) * (W.size + 1) := ⟨_, rfl⟩
  have hSb := sp_bd W.size S hS hW
  have e1 := (sp_eq W.size S hS hSb.2).1
  have e2 := (sp_eq W.size S hS hSb.2).2
  have HSE := Lib.hid hS
  have HP1 := Lib.hid (heap_alloc_new w1 (tblO G W A c A' c' S (.slice none 0 0) (.slice none 0 0) (.slice none 0 0)))
  have HB3 := Lib.hid (below_alloc' HB2.out (tblO G W A c A' c' S (.slice none 0 0) (.slice none 0 0) (.slice none 0 0)))
  have HW1 := Lib.hid (below_alloc' (below_refl w1) (tblO G W A c A' c' S (.slice none 0 0) (.slice none 0 0) (.slice none 0 0)))
  have HBT := Lib.hid (show bg < w1.heap.size from blk_lt HG1.out)
  obtain ⟨tp, htp⟩ : ∃ tp, tp = w1.heap.size := ⟨_, rfl⟩
  rw [← htp] at HP1
  have HTP := Lib.hid htp
  clear hS
  go_wp2_with fail
  change Code.wp _ _ _ _ (w1.alloc (tblO G W A c A' c' S (.slice none 0 0) (.slice none 0 0) (.slice none 0 0)))
  rw [← htp]
  clear x0 x1 x2 e1 e2 htp
  generalize w1.alloc (tblO G W A c A' c' S (.slice none 0 0) (.slice none 0 0) (.slice none 0 0)) = w2 at HP1 HB3 HW1 ⊢
  go_loopw [10, 11] (fun s10 cnt wr => NT1 G W A c A' c' S w1 tp s10 cnt wr) (fun _ cnt _ => G.rules.length - (intOf cnt).toNat)
  case atStart => exact ⟨0, _, [], rfl, rfl, Nat.zero_le _, rfl, HP1.out, ⟨Own.nil _ _ _ _, fun k x hk => by simp at hk⟩, HW1.out⟩
  case round =>
    clear HP1 HW1 HB3
    obtain ⟨r, v, aa, rfl, rfl, hr, haa, hs⟩ := hrel
    have HS := Lib.hid hs
    have HAA := Lib.hid haa
    obtain ⟨Av, kv, rfl, -, -, -⟩ := id hs.cj.own.shape
    have x2 : wr.cell? ⟨bg, 2, none⟩ = some (.slice A' G.rules.length c') := blk_cell (blk_below HG1.out hs.U) 2
    clear hs haa
    by_cases hlt : r < G.rules.length
    · obtain ⟨x, hx⟩ : ∃ x, G.rules[r]? = some x := ⟨_, List.getElem?_eq_getElem hlt⟩
      have HX := Lib.hid hx
      have b1 : (r : Int) < G.rules.length := by omega
      have hcl := M.conj r x hx
      clear hx
      go_wp2_with fail
      clear x2
      go_loopw [10, 12, 13] (fun s10 s12 cnt wi => NT2 G W A c A' c' S w1 tp r x (.slice Av aa.length kv) aa s10 s12 cnt wi) (fun _ _ cnt _ => x.conj.length - (intOf cnt).toNat)
      case atStart => exact ⟨0, _, [], rfl, rfl, rfl, Nat.zero_le _, rfl, Own.nil _ _ _ _, fun b hb => (by cases hb), HS.out⟩
      case round =>
        clear HS
        obtain ⟨k, vc, os, rfl, rfl, rfl, hk, hos, hoc, hsep, hs⟩ := hrel
        have HS := Lib.hid hs
        have HOS := Lib.hid hos
        have HOC := Lib.hid hoc
        have HSEP := Lib.hid hsep
        have hol : os.length = k := by rw [hos]; simp
        have X2 := Lib.hid (show w1.cell? ⟨bg, 2, none⟩ = some (.slice A' G.rules.length c') from blk_cell HG1.out 2)
        obtain ⟨rd, Ac, cc, eA, -, -, r1, -, -, hCC⟩ := rul_at (N6.out.mono HB2.out) HX.out
        rw [eA] at X2
        have R1 := Lib.hid r1
        have x2 := below_cell hs.U X2.out
        have r1 := below_cell hs.U R1.out
        have b1 : (r : Int) < G.rules.length := by omega
        clear hs hoc hsep hos eA
        by_cases hltk : k < x.conj.length
        · obtain ⟨y, hy⟩ : ∃ y, x.conj[k]? = some y := ⟨_, List.getElem?_eq_getElem hltk⟩
          have hq := q_lt HX.out hy
          have hQ := (gfits_of (lev := List.replicate G.names.length 0) M (by simp)).Q
          have b3 : (k : Int) < x.conj.length := by omega
          obtain ⟨Ac', kc, rfl, -, -, -⟩ := id HOC.out.shape
          obtain ⟨qn, hqn⟩ : ∃ qn, qn = rSum G.rules r + cSum x.conj k := ⟨_, rfl⟩
          have hoff : offG G r k = qn := by unfold offG; rw [HX.out, hqn]
          rw [← hqn] at hq ⊢
          have HQN := Lib.hid (show qn + (y.seq.length + 1) = rSum G.rules r + cSum x.conj (k + 1) by rw [cSum_succ hy, hqn]; omega)
          have HNEW := Lib.hid (show os ++ [(qn : Int)] = (List.range (k + 1)).map (fun q => (offG G r q : Int)) by rw [List.range_succ, List.map_append, ← HOS.out, ← hoff]; rfl)
          have b5 : qn + (y.seq.length + 1) ≤ 100000 := by omega
          have HY := Lib.hid hy
          have hlen : os.length ≤ 100 := by omega
          obtain ⟨cd, As, cs, eC, -, s0, s1, -, -, -⟩ := conj_at hCC hy
          rw [eC] at r1 R1
          have S1 := Lib.hid s1
          have ltp : tp < wr.heap.size := blk_lt HS.out.p
          clear hqn hoff hy hq hQ eC hCC s0 s1
          go_wp2_with (first
            | (at_builtin; refine wpList_append_one (d := Rd.int) rfl (base := tp + 1) (.tmp 57) (.tmp 59) 84 3 _ 8 (by rfl) Tryz.underlying84 infoInt (by rfl) (by decide) (v := .slice Ac' os.length kc) (xs := os) (by rfl) (HOC.out.below (below_alloc' (below_refl _) _)) (qn : Int) #[.int .i64 (qn : Int)] (fun _ _ => rfl) (b := wr.heap.size) (c := 1) (by rfl) (heap_alloc_new wr _) (by omega) (by decide) (by simp; omega) ?_; intro v5 w5 o5 g5 t5; have hb5 := below_grown (below_alloc' HS.out.U _) g5 (fun b hb => by have := (HOC.out.base hb).1; have := HTP.out; omega); have x2 := below_cell hb5 X2.out; have r1 := below_cell hb5 R1.out; have s1 := below_cell hb5 S1.out; have O5 := Lib.hid o5; have G5 := Lib.hid g5; have T5 := Lib.hid t5; have HB5 := Lib.hid hb5; clear o5 g5 t5 hb5)
            | fail)
          go_roundw
          case rel =>
            refine ⟨k + 1, _, _, by go_num, rfl, by rw [← HQN.out]; go_num, by omega, HNEW.out, O5.out, ?_, ?_⟩
            · intro b hb a ha
              rcases T5.out with e | e
              · rw [e] at hb; exact HSEP.out b hb a ha
              · rw [e] at hb
                injection hb with hb
                have h1 := (HS.out.cj.rows_lt (by have := HAA.out; omega) a ha).2.1
                have h3 : wr.heap.size ≤ (wr.alloc (Obj.cells #[.int .i64 (qn : Int)] 3)).heap.size := (below_alloc' (below_refl wr) _).size
                omega
            · have hu : Upd (fun b => (Value.slice Ac' os.length kc).ownBlock = some b) wr w5 := (Upd.of_below (below_alloc' (below_refl wr) _)).trans (Upd.of_grown G5.out)
              exact ⟨blk_grown (blk_below HS.out.p (below_alloc' (below_refl _) _)) G5.out (fun e => by have := (HOC.out.base e.symm).1; omega), HS.out.cj.upd (by have := HAA.out; omega) hu (fun b hb => own_type_ne HS.out.cj.own HOC.out (by decide) hb) (fun a ha e => HSEP.out a.1 e a ha rfl), HB5.out⟩
          case measure => simp [intOf]; omega
        · have hke : k = x.conj.length := by omega
          subst hke
          obtain ⟨g, ca, eg, hg, -⟩ := HOC.out.form (by omega)
          rw [hol] at eg
          subst eg
          have y6 : wr.cell? ⟨tp, 6, none⟩ = some (.slice Av aa.length kv) := blk_cell HS.out.p 6
          have ltp : tp < wr.heap.size := blk_lt HS.out.p
          have hal : aa.length ≤ 256 := by have := HAA.out; omega
          have HOL := Lib.hid hol
          have HRS := Lib.hid (rSum_succ HX.out)
          clear hol
          go_wp2_with (first
            | (at_builtin; refine wpList_append_one (d := rowRd) rfl (base := tp + 1) (.tmp 79) (.tmp 81) 87 84 _ 24 (by rfl) Tryz.underlying87 infoSl (by rfl) (by decide) (v := .slice Av aa.length kv) (xs := aa) (by rfl) (HS.out.cj.own.below (below_alloc' (below_refl _) _)) (g, x.conj.length, ca) #[.slice (some ⟨g, 0, none⟩) x.conj.length ca] (fun _ _ => rfl) (b := wr.heap.size) (c := 1) (by rfl) (heap_alloc_new wr _) (by omega) (by decide) (by simp; omega) ?_; intro v6 w6 o6 g6 t6; obtain ⟨A6, k6, ev6, -, -, -⟩ := id o6.shape; subst ev6; have P6 := blk_grown (blk_below HS.out.p (below_alloc' (below_refl _) _)) g6 (fun e => by have := (HS.out.cj.own.base e.symm).1; omega); have j6 : w6.cell? ⟨tp, 6, none⟩ = some (.slice Av aa.length kv) := blk_cell P6 6; have f6 := blk_frozen P6 6; have HP6 := Lib.hid P6; have O6 := Lib.hid o6; have G6 := Lib.hid g6; clear o6 g6 t6 P6)
            | fail)
          go_roundw
          case rel =>
            have hn : (aa ++ [(g, x.conj.length, ca)]).length = aa.length + 1 := by simp
            have o6 := O6.out
            rw [hn] at o6
            refine ⟨r + 1, .slice A6 (aa.length + 1) k6, aa ++ [(g, x.conj.length, ca)], by go_num, by rw [HRS.out]; go_num, by omega, by simp [HAA.out], ?_, ?_, ?_⟩
            · have := blk_set HP6.out 6 (.slice A6 (aa.length + 1) k6)
              simpa [tblO] using this
            · have h1 := HS.out.cj.upd (w1 := wr.alloc (Obj.cells #[.slice (some ⟨g, 0, none⟩) x.conj.length ca] 84)) (R := fun _ => False) (by have := HAA.out; omega) (Upd.of_below (below_alloc' (below_refl wr) _)) (fun _ _ h => h) (fun _ _ h => h)
              exact h1.more (by omega) (by rw [HAA.out]; exact HX.out) (HOC.out.below (below_alloc' (below_refl _) _)) rfl (by rw [HAA.out]; exact HOS.out) (by omega) o6 G6.out _
            · exact below_setNew (below_grown (below_alloc' HS.out.U _) G6.out (fun b hb => by have := (HS.out.cj.own.base hb).1; have := HTP.out; omega)) (by have := HTP.out; simp only; omega) _
          case measure => simp [intOf]; omega
    · have hre : r = G.rules.length := by omega
      obtain ⟨cbk, kv', ev, hcb, -⟩ := HS.out.cj.own.form (by have := HAA.out; have := M.rules1; omega)
      cases ev
      have hSb' := hSb.2
      have hQ := (gfits_of (lev := List.replicate G.names.length 0) M (by simp)).Q
      have hB1 : G.names.length * S ≤ 64 * 1089 := Nat.mul_le_mul hK hSb.2
      have hB2 : qG G * S ≤ 100000 * 1089 := Nat.mul_le_mul hQ hSb.2
      obtain ⟨L1, hL1⟩ : ∃ L, L = G.names.length * S := ⟨_, rfl⟩
      obtain ⟨L2, hL2⟩ : ∃ L, L = qG G * S := ⟨_, rfl⟩
      obtain ⟨Q, hQe⟩ : ∃ Q, Q = rSum G.rules r := ⟨_, rfl⟩
      have hQG : Q = qG G := by rw [hQe, hre]; rfl
      rw [← hL1] at hB1
      rw [← hL2] at hB2
      rw [← hQe]
      have mk1 := mkw_run L1 (by omega)
      have mk2 := mkw_run L2 (by omega)
      have k1 : (G.names.length : Int) * (S : Int) = (L1 : Int) := by rw [hL1]; push_cast; rfl
      have k2 : (Q : Int) * (S : Int) = (L2 : Int) := by rw [hL2, hQG]; push_cast; rfl
      have e1 : IntKind.i64.wrap ((G.names.length : Int) * (S : Int)) = (L1 : Int) := by rw [k1]; exact IntWalk.i64_in _ (by omega)
      have e2 : IntKind.i64.wrap ((Q : Int) * (S : Int)) = (L2 : Int) := by rw [k2]; exact IntWalk.i64_in _ (by omega)
      have e1' : wrap64 ((G.names.length : Int) * (S : Int)) = (L1 : Int) := by rw [k1]; unfold wrap64; omega
      have e2' : wrap64 ((Q : Int) * (S : Int)) = (L2 : Int) := by rw [k2]; unfold wrap64; omega
      have HL1 := Lib.hid hL1
      have HL2 := Lib.hid hL2
      have HQG := Lib.hid hQG
      have HAL := Lib.hid (HAA.out.trans hre)
      have x1 : wr.cell? ⟨bg, 1, none⟩ = some (.slice A G.names.length c) := blk_cell (blk_below HG1.out HS.out.U) 1
      have y4 : wr.cell? ⟨tp, 4, none⟩ = some (.int .i64 S) := blk_cell HS.out.p 4
      have ltp : tp < wr.heap.size := blk_lt HS.out.p
      have hp1 := blk_below HS.out.p (below_alloc' (below_refl wr) (zRow L1))
      have z5 : (wr.alloc (zRow L1)).cell? ⟨tp, 5, none⟩ = some (.slice none 0 0) := blk_cell hp1 5
      have f5 : (wr.alloc (zRow L1)).frozen? ⟨tp, 5, none⟩ = false := blk_frozen hp1 5
      clear hL1 hL2 hQe hQG hre hp1 hQ hB1 hB2 k1 k2
      go_upto_region 16 with fail
      go_region_law (fail)
      all_goals
        have hu7 : Upd (fun b => b = tp) wr ((wr.setCell ⟨tp, 5, none⟩ (.slice (some ⟨wr.heap.size, 0, none⟩) L1 L1)).alloc (zRow L1)).drew := Upd.trans (Upd.setCell (R := fun b => b = tp) (p := ⟨tp, 5, none⟩) (Upd.refl _ wr) rfl _) (Upd.of_below (below_drew' (below_alloc' (below_refl _) _)))
        have HP7 := Lib.hid (show ((wr.setCell ⟨tp, 5, none⟩ (.slice (some ⟨wr.heap.size, 0, none⟩) L1 L1)).alloc (zRow L1)).drew.heap[tp]? = some (tblO G W A c A' c' S (.slice (some ⟨wr.heap.size, 0, none⟩) L1 L1) (.slice (some ⟨cbk, 0, none⟩) aa.length kv) (.slice none 0 0)) by
          have h1 := blk_set HS.out.p 5 (.slice (some ⟨wr.heap.size, 0, none⟩) L1 L1)
          have h2 := blk_below h1 (below_drew' (below_alloc' (below_refl _) (zRow L1)))
          simpa [tblO] using h2)
        have HC7 := Lib.hid (HS.out.cj.upd (by have := HAL.out; omega) hu7 (fun b hb e => by have := (HS.out.cj.own.base hb).1; omega) (fun a ha e => by have := (HS.out.cj.rows_lt (by have := HAL.out; omega) a ha).1; omega))
        have HZ7 := Lib.hid (show ((wr.setCell ⟨tp, 5, none⟩ (.slice (some ⟨wr.heap.size, 0, none⟩) L1 L1)).alloc (zRow L1)).drew.heap[wr.heap.size]? = some (zRow L1) by
          have h := heap_alloc_new (wr.setCell ⟨tp, 5, none⟩ (.slice (some ⟨wr.heap.size, 0, none⟩) L1 L1)) (zRow L1)
          rw [show (wr.setCell ⟨tp, 5, none⟩ (.slice (some ⟨wr.heap.size, 0, none⟩) L1 L1)).heap.size = wr.heap.size by simp] at h
          exact h)
        have HB7 := Lib.hid (show Below w1.heap.size w1 ((wr.setCell ⟨tp, 5, none⟩ (.slice (some ⟨wr.heap.size, 0, none⟩) L1 L1)).alloc (zRow L1)).drew from below_drew' (below_alloc' (below_setNew HS.out.U (by have := HTP.out; simp only; omega) _) _))
        have HRL7 := Lib.hid (show (∀ a ∈ aa, a.1 < wr.heap.size) ∧ cbk < wr.heap.size from ⟨fun a ha => (HS.out.cj.rows_lt (by have := HAL.out; omega) a ha).2.1, (HS.out.cj.own.base (b := cbk) rfl).2⟩)
        obtain ⟨n1, hn1⟩ : ∃ n1, n1 = wr.heap.size := ⟨_, rfl⟩
        rw [← hn1] at HP7 HC7 HZ7 HB7 HRL7 ltp ⊢
        clear hu7 x1 y4 z5 f5 e1 e1' mk1 HS
        generalize ((wr.setCell ⟨tp, 5, none⟩ (.slice (some ⟨n1, 0, none⟩) L1 L1)).alloc (zRow L1)).drew = w7 at HP7 HC7 HZ7 HB7 ⊢
        clear hn1
        have y4 : w7.cell? ⟨tp, 4, none⟩ = some (.int .i64 S) := blk_cell HP7.out 4
        have hp1 := blk_below HP7.out (below_alloc' (below_refl w7) (zRow L2))
        have z7 : (w7.alloc (zRow L2)).cell? ⟨tp, 7, none⟩ = some (.slice none 0 0) := blk_cell hp1 7
        have f7 : (w7.alloc (zRow L2)).frozen? ⟨tp, 7, none⟩ = false := blk_frozen hp1 7
        have ltp7 : tp < w7.heap.size := blk_lt HP7.out
        have HN1 := Lib.hid (blk_lt HZ7.out)
        clear hp1
        have hu8 : Upd (fun b => b = tp) w7 ((w7.setCell ⟨tp, 7, none⟩ (.slice (some ⟨w7.heap.size, 0, none⟩) L2 L2)).alloc (zRow L2)) := Upd.trans (Upd.setCell (R := fun b => b = tp) (p := ⟨tp, 7, none⟩) (Upd.refl _ w7) rfl _) (Upd.of_below (below_alloc' (below_refl _) _))
        have HP8 := Lib.hid (show ((w7.setCell ⟨tp, 7, none⟩ (.slice (some ⟨w7.heap.size, 0, none⟩) L2 L2)).alloc (zRow L2)).heap[tp]? = some (tblO G W A c A' c' S (.slice (some ⟨n1, 0, none⟩) L1 L1) (.slice (some ⟨cbk, 0, none⟩) aa.length kv) (.slice (some ⟨w7.heap.size, 0, none⟩) L2 L2)) by
          have h1 := blk_set HP7.out 7 (.slice (some ⟨w7.heap.size, 0, none⟩) L2 L2)
          have h2 := blk_below h1 (below_alloc' (below_refl _) (zRow L2))
          simpa [tblO] using h2)
        have HC8 := Lib.hid (HC7.out.upd (by have := HAL.out; omega) hu8 (fun b hb e => by have := (HC7.out.own.base hb).1; omega) (fun a ha e => by have := (HC7.out.rows_lt (by have := HAL.out; omega) a ha).1; omega))
        have HZ8 := Lib.hid (show ((w7.setCell ⟨tp, 7, none⟩ (.slice (some ⟨w7.heap.size, 0, none⟩) L2 L2)).alloc (zRow L2)).heap[w7.heap.size]? = some (zRow L2) by
          have h := heap_alloc_new (w7.setCell ⟨tp, 7, none⟩ (.slice (some ⟨w7.heap.size, 0, none⟩) L2 L2)) (zRow L2)
          rw [show (w7.setCell ⟨tp, 7, none⟩ (.slice (some ⟨w7.heap.size, 0, none⟩) L2 L2)).heap.size = w7.heap.size by simp] at h
          exact h)
        have HY8 := Lib.hid ((hu8.block n1 HN1.out (by omega)).trans HZ7.out)
        have HB8 := Lib.hid (show Below w1.heap.size w1 ((w7.setCell ⟨tp, 7, none⟩ (.slice (some ⟨w7.heap.size, 0, none⟩) L2 L2)).alloc (zRow L2)) from below_alloc' (below_setNew HB7.out (by have := HTP.out; simp only; omega) _) _)
        obtain ⟨n2, hn2⟩ : ∃ n2, n2 = w7.heap.size := ⟨_, rfl⟩
        have HN12 := Lib.hid (show n1 < n2 by have := HN1.out; omega)
        have HTP2 := Lib.hid (show tp < n1 from ltp)
        clear hu8
        go_wp2_with fail
        rw [← hn2] at HP8 HC8 HZ8 HY8 HB8 ⊢
        clear hn2 y4 z7 f7 ltp7 e2 e2' mk2 HP7 HC7 HZ7 HB7 HN1
        generalize (w7.setCell ⟨tp, 7, none⟩ (.slice (some ⟨n2, 0, none⟩) L2 L2)).alloc (zRow L2) = w8 at HP8 HC8 HZ8 HY8 HB8 ⊢
        have F : (newT G W A c A' c' tp n1 L1 cbk kv n2 L2 aa).Fits := ⟨M, hW⟩
        have hRR : ∀ b, (b = (newT G W A c A' c' tp n1 L1 cbk kv n2 L2 aa).nb ∨ b = (newT G W A c A' c' tp n1 L1 cbk kv n2 L2 aa).rb) → n1 ≤ b := by
          have := HN12.out
          rintro b (e | e) <;> (simp only [newT] at e; omega)
        have hb1 : ∀ b, n1 ≤ b → w1.heap.size ≤ b := fun b h => by have := HTP2.out; have := HTP.out; omega
        have HST0 := Lib.hid (show RStat w8 (newT G W A c A' c' tp n1 L1 cbk kv n2 L2 aa) from fun w' hu => new_rtat HSE.out HL1.out HL2.out HAL.out ((hu.block tp (blk_lt HP8.out) (fun e => by have := hRR _ e; have := HTP2.out; omega)).trans HP8.out)
          (HC8.out.upd (by have := HAL.out; omega) hu (fun b hb e => by
            have h1 : cbk = b := by injection hb
            have := HRL7.out.2
            have := hRR _ e
            omega) (fun a ha e => by
            have := HRL7.out.1 a ha
            have := hRR _ e
            omega)) (N6.out.mono (below_trans HB2.out (HB8.out.trans (hu.below HB8.out.size (fun b e => hb1 b (hRR b e)))))))
        have HO := Lib.hid (show ROld w8 (newT G W A c A' c' tp n1 L1 cbk kv n2 L2 aa) from ⟨⟨w1, HB8.out, N6.out.mono HB2.out, hb1 n1 (Nat.le_refl _), hb1 n2 (by have := HN12.out; omega)⟩, by have := HN12.out; simp only [newT]; omega⟩)
        have HOL := Lib.hid (show LOld w8 (newT G W A c A' c' tp n1 L1 cbk kv n2 L2 aa) Al lev from ⟨⟨w1, HB8.out, HLC.out, hb1 n1 (Nat.le_refl _), hb1 n2 (by have := HN12.out; omega)⟩⟩)
        obtain ⟨T, hT⟩ := truth_exists HGL.out hW
        have HTT := Lib.hid hT
        have HLEN := Lib.hid (show lev.length = G.names.length from HGL.out.len)
        have HF0 := Lib.hid (show FInv G W T lev 0 (fun _ _ _ => 0, fun _ _ _ => 0) from finv_start G W T (fun i hi => (HGL.out.low i hi).1) M.head)
        have HW8 := Lib.hid (show FWd w8 (newT G W A c A' c' tp n1 L1 cbk kv n2 L2 aa) w8 (fun _ _ _ => 0, fun _ _ _ => 0) from ⟨HST0.out, flat_zero (by rw [HL1.out, HSE.out]; rfl) HY8.out, flat_zero (by rw [HL2.out, HSE.out]; rfl) HZ8.out, Upd.refl _ _⟩)
        have HTB := Lib.hid (show (∀ a ∈ aa, a.1 ≠ tp) ∧ cbk ≠ tp from ⟨fun a ha e => by have := (HC8.out.rows_lt (by have := HAL.out; omega) a ha).1; omega, fun e => by have := (HC8.out.own.base (b := cbk) rfl).1; omega⟩)
        have HRW := Lib.hid (show ∀ (k : Nat) (x : Rul), G.rules[k]? = some x → (newT G W A c A' c' tp n1 L1 cbk kv n2 L2 aa).ar k ≠ tp from fun k x hx => by
          obtain ⟨b, ca, cur, e1, -, -, -⟩ := HC8.out.row k x (by rw [HAL.out]; exact (List.getElem?_eq_some_iff.1 hx).1) hx
          have := HTB.out.1 _ (List.mem_of_getElem? e1)
          have hg : aa.getD k (0, 0, 0) = (b, x.conj.length, ca) := by simp [List.getD, e1]
          simp only [newT, hg]
          exact this)
        have HLO := Lib.hid (show ∀ (m1 y1 m2 y2 k : Nat), w.heap.size ≤ k → k ≤ m1 ∧ k ≤ m2 → RLow w.heap.size ((newT G W A c A' c' tp n1 L1 cbk kv n2 L2 aa).rows m1 y1 m2 y2) from fun m1 y1 m2 y2 k hk hm => by
          have h0 := HB2.out.size
          have h1 := HTP.out
          refine ⟨by simp only [RT.rows, newT]; omega, by simp only [RT.rows]; omega, by simp only [RT.rows]; omega, by have := (HC8.out.own.base (b := cbk) rfl).1; simp only [RT.rows, newT]; omega, fun q x hx => ?_⟩
          obtain ⟨b, ca, cur, e1, -, -, -⟩ := HC8.out.row q x (by rw [HAL.out]; exact (List.getElem?_eq_some_iff.1 hx).1) hx
          have := (HC8.out.rows_lt (by have := HAL.out; omega) _ (List.mem_of_getElem? e1)).1
          have hg : aa.getD q (0, 0, 0) = (b, x.conj.length, ca) := by simp [List.getD, e1]
          simp only [RT.rows, newT, hg]
          simp only at this
          omega)
        have HRR := Lib.hid hRR
        have HBB := Lib.hid hb1
        have x1 : w8.cell? ⟨bg, 1, none⟩ = some (.slice A G.names.length c) := blk_cell (blk_below HG1.out HB8.out) 1
        clear hT hRR hb1
        go_loopw [14] (fun cnt wi => NT3 w8 (newT G W A c A' c' tp n1 L1 cbk kv n2 L2 aa) T lev cnt wi) (fun cnt _ => G.names.length + 1 - (intOf cnt).toNat)
        case atStart => exact ⟨0, _, rfl, Nat.zero_le _, HF0.out, HW8.out⟩
        case round =>
          clear HW8 HF0
          obtain ⟨l, st, rfl, hl, hi, hw⟩ := hrel
          have HI := Lib.hid hi
          have HWd := Lib.hid hw
          have hl' : l ≤ G.names.length + 1 := hl
          have HBw := Lib.hid (show Below w1.heap.size w1 wr from HB8.out.trans (hw.U.below HB8.out.size (fun b e => HBB.out b (HRR.out b e))))
          have x1 : wr.cell? ⟨bg, 1, none⟩ = some (.slice A G.names.length c) := blk_cell (blk_below HG1.out HBw.out) 1
          clear hi hw hl
          by_cases hltl : l ≤ G.names.length
          · have d1 : decide ((l : Int) ≤ (G.names.length : Int)) = true := decide_eq_true (by omega)
            have HC := Lib.hid (rfill_any (cl := cl) HWd.out.S (HO.out.upd HWd.out.U) F (HOL.out.upd HWd.out.U) HLEN.out HWd.out.N HWd.out.P HTT.out HGL.out.edge HI.out)
            go_wp2_with (first | (go_at_call 28; refine HC.out.mono ?_; rintro e w9 ⟨rfl, st2, hi2, hw2⟩; have HI2 := Lib.hid hi2; have HW2 := Lib.hid hw2; clear hi2 hw2) | fail)
            go_roundw
            case rel => exact ⟨l + 1, st2, by go_num, by show l + 1 ≤ G.names.length + 1; omega, by have := HI2.out; push_cast; exact this, ⟨HW2.out.S, HW2.out.N, HW2.out.P, HWd.out.U.trans HW2.out.U⟩⟩
            case measure => simp [intOf]; omega
          · have d1 : decide ((l : Int) ≤ (G.names.length : Int)) = false := decide_eq_false (by omega)
            have HMM := Lib.hid (show Mem G W T st from Mem.of HI.out (fun i hi => by have := (HGL.out.low i hi).2; omega) M.head)
            have HTP9 := Lib.hid ((HWd.out.U.block tp (blk_lt HP8.out) (fun e => by have := HRR.out _ e; have := HTP2.out; omega)).trans HP8.out)
            have HRK := Lib.hid (rrank_all (M := st) HWd.out.S.now ⟨HTP9.out, ⟨w1, HBw.out, N6.out.mono HB2.out, by have := HTP.out; simp only [newT]; omega⟩, HTB.out.2, fun k x hx => HRW.out k x hx⟩ F HTT.out HMM.out HWd.out.N HWd.out.P)
            go_wp2_with (first | (go_at_call 29; refine HRK.out.mono ?_; rintro e w9 ⟨rfl, m1, y1, m2, y2, st2, hA9, hN9, hP9, hU9, hE1, hE2, hm1, hm2⟩; have HM12 := Lib.hid (And.intro hm1 hm2); clear hm1 hm2; have HA9 := Lib.hid hA9; have HN9 := Lib.hid hN9; have HP9 := Lib.hid hP9; have HU9 := Lib.hid hU9; have HE1 := Lib.hid hE1; have HE2 := Lib.hid hE2; clear hA9 hN9 hP9 hU9 hE1 hE2) | fail)
            go_ret2
            exact ⟨(newT G W A c A' c' tp n1 L1 cbk kv n2 L2 aa).rows m1 y1 m2 y2, T, st2, rfl, rfl, ⟨M, hW⟩, HTT.out, HA9.out, HN9.out, HP9.out, ⟨HE1.out, HE2.out⟩, rfl, below_trans HB2.out (HBw.out.trans (HU9.out.below HBw.out.size (fun b e => by have h1 := HTP.out; have h2 : b = tp := e; omega))), HLO.out _ _ _ _ _ (below_trans HB2.out HBw.out).size HM12.out, rfl⟩
end Go.Proofs.YtbidpeggdhkahaaGreat
