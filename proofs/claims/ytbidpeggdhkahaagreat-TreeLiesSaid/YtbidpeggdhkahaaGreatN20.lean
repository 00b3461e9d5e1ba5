/-
  N18: the document's own edges: needs, Edges, edgesMay.
  N19: the document's own reach and levels: edgesMay, reached, Reaches, Strata of a grammar that may be.
  N20: the document's own levels: Strata of a grammar that may be and whose names do not lean on their own negation.
-/
import Derived.Test.YtbidpeggdhkahaaGreatN3
import Derived.Test.YtbidpeggdhkahaaGreatA7
import Derived.Test.YtbidpeggdhkahaaGreatU1
import Derived.Test.YtbidpeggdhkahaaGreatA3
import Derived.Deep.RegionLaw
import Derived.Laws.MakeOwn
import Derived.Test.YtbidpeggdhkahaaGreatN17
set_option linter.unusedSimpArgs false
set_option linter.unusedVariables false
namespace Go.Proofs.YtbidpeggdhkahaaGreat
open Go.RowKit

abbrev gVal (G : Gram) (A : Option Addr) (c : Nat) (A' : Option Addr) (c' : Nat) : Value := .agg #[.int .i64 G.start, .slice A G.names.length c, .slice A' G.rules.length c']
def ndS (b : Int) (s : Sym) : Bool := decide (s.name = b)
def ndC (b : Int) (neg : Bool) (c : Conj) : Bool := (c.neg == neg) && c.seq.any (ndS b)
def ndR (a b : Int) (neg : Bool) (r : Rul) : Bool := decide (r.head = a) && r.conj.any (ndC b neg)
theorem needsR_eq (G : Gram) (a b : Int) (neg : Bool) : needsR G a b neg = G.rules.any (ndR a b neg) := rfl

set_option maxRecDepth 100000 in
set_option maxHeartbeats 8000000 in
theorem rneeds_any {w : World} {G : Gram} {A A' : Option Addr} {c c' : Nat} (M : MayG G) (n6 : rulRd.C w A' G.rules) (a b : Int) (neg : Bool) :
    Calls Tryz.prog 61 #[gVal G A c A' c', .int .i64 a, .int .i64 b, .bool neg] w fun e w' => e = .returned (.bool (needsR G a b neg)) ∧ Below w.heap.size w w' := by
  have hRL := M.rules
  have hb0 : Below w.heap.size w (w.alloc (Obj.cells #[Value.int .i64 G.start, Value.slice A G.names.length c, Value.slice A' G.rules.length c'] 25)) := below_alloc' (below_refl w) _
  have B0 := heap_alloc_new w (Obj.cells #[Value.int .i64 G.start, Value.slice A G.names.length c, Value.slice A' G.rules.length c'] 25)
  have N6 := Lib.hid (n6.mono hb0)
  obtain ⟨bg, hbg⟩ : ∃ bg, bg = w.heap.size := ⟨_, rfl⟩
  have HG := Lib.hid B0
  have HB0 := Lib.hid hb0
  clear n6 hb0 B0
  go_enter Tryz.func61, Tryz.ntmps61
  go_wp2_with fail
  rw [← hbg] at HG ⊢
  clear hbg
  generalize w.alloc (Obj.cells #[Value.int .i64 G.start, Value.slice A G.names.length c, Value.slice A' G.rules.length c'] 25) = w0 at N6 HG HB0 ⊢
  go_loopw [9] (fun cnt wr => NoneTo G.rules (ndR a b neg) w0 cnt wr) (fun cnt _ => G.rules.length - (intOf cnt).toNat)
  case atStart => exact ⟨0, rfl, Nat.zero_le _, rfl, below_refl _⟩
  case round =>
    obtain ⟨i, rfl, hi, hall, hb⟩ := hrel
    have HB := Lib.hid hb
    have HA := Lib.hid hall
    have g2 : wr.cell? ⟨bg, 2, none⟩ = some (.slice A' G.rules.length c') := blk_cell (blk_below HG.out hb) 2
    clear hb hall
    by_cases hlt : i < G.rules.length
    · obtain ⟨x, hx⟩ : ∃ x, G.rules[i]? = some x := ⟨_, List.getElem?_eq_getElem hlt⟩
      obtain ⟨rd, Ac, cc, eA, -, r0, r1, -, -, hCC⟩ := rul_at (N6.out.mono HB.out) hx
      subst eA
      have b1 : (i : Int) < G.rules.length := by omega
      have HX := Lib.hid hx
      have hcl := (M.conj i x hx).2
      by_cases hh : x.head = a
      · have d1 : (x.head != a) = false := by simp [hh]
        have HR := Lib.hid (show ndR a b neg x = x.conj.any (ndC b neg) by unfold ndR; rw [decide_eq_true hh]; rfl)
        have HCC := Lib.hid hCC
        clear hx hh hCC
        go_wp2_with fail
        clear d1 g2 r0 r1
        obtain ⟨w3, hw3⟩ : ∃ w3 : World, w3 = wr := ⟨_, rfl⟩
        rw [← hw3] at HCC HB ⊢
        clear hw3 wr
        go_loopw [10] (fun cnt wi => NoneTo x.conj (ndC b neg) w3 cnt wi) (fun cnt _ => x.conj.length - (intOf cnt).toNat)
        case atStart => exact ⟨0, rfl, Nat.zero_le _, rfl, below_refl _⟩
        case round =>
          obtain ⟨q, rfl, hq, hall2, hb2⟩ := hrel
          have HB2 := Lib.hid hb2
          have HA2 := Lib.hid hall2
          have HBB := Lib.hid (below_trans HB.out hb2)
          have g2 : wr.cell? ⟨bg, 2, none⟩ = some (.slice (some rd) G.rules.length c') := blk_cell (blk_below HG.out HBB.out) 2
          obtain ⟨rd', Ac', cc', eA', -, r0, r1, -, -, hCC⟩ := rul_at (N6.out.mono HBB.out) HX.out
          cases eA'
          have b1 : (i : Int) < G.rules.length := by omega
          clear hb2 hall2
          by_cases hltq : q < x.conj.length
          · obtain ⟨y, hy⟩ : ∃ y, x.conj[q]? = some y := ⟨_, List.getElem?_eq_getElem hltq⟩
            obtain ⟨cd, As, cs, eC, -, s0, s1, -, -, hSS⟩ := conj_at hCC hy
            subst eC
            have b3 : (q : Int) < x.conj.length := by omega
            have hsl := M.seq i x q y HX.out hy
            have HY := Lib.hid hy
            have hba := below_alloc' (below_refl wr) (Obj.cells #[Value.bool y.neg, Value.slice As y.seq.length cs] 50)
            have B8 := heap_alloc_new wr (Obj.cells #[Value.bool y.neg, Value.slice As y.seq.length cs] 50)
            have HSS := Lib.hid (hSS.mono hba)
            have HB8 := Lib.hid B8
            have HBA := Lib.hid (below_trans HB2.out hba)
            obtain ⟨bc, hbc⟩ : ∃ bc, bc = wr.heap.size := ⟨_, rfl⟩
            obtain ⟨ng, hng⟩ : ∃ ng, ng = y.neg := ⟨_, rfl⟩
            rw [← hng] at s0 HB8 HSS HBA
            have HNG := Lib.hid hng
            clear hy hSS hba B8 hCC hng
            go_wp2_with fail
            rw [← hbc] at HB8 ⊢
            clear hbc g2 r0 r1 s0 s1
            generalize wr.alloc (Obj.cells #[Value.bool ng, Value.slice As y.seq.length cs] 50) = w4 at HSS HB8 HBA ⊢
            go_loopw [12] (fun cnt wi => NoneTo y.seq (ndS b) w4 cnt wi) (fun cnt _ => y.seq.length - (intOf cnt).toNat)
            case atStart => exact ⟨0, rfl, Nat.zero_le _, rfl, below_refl _⟩
            case round =>
              obtain ⟨k, rfl, hk, hall3, hb3⟩ := hrel
              have HB3 := Lib.hid hb3
              have HA3 := Lib.hid hall3
              have x0 : wr.cell? ⟨bc, 0, none⟩ = some (.bool ng) := blk_cell (blk_below HB8.out hb3) 0
              have x1 : wr.cell? ⟨bc, 1, none⟩ = some (.slice As y.seq.length cs) := blk_cell (blk_below HB8.out hb3) 1
              have HBE := Lib.hid (below_trans HBA.out hb3)
              clear hb3 hall3
              cases hne : (ng == neg) with
              | false =>
                have HNC := Lib.hid (show ndC b neg y = false by unfold ndC; rw [← HNG.out, hne]; rfl)
                by_cases hltk : k < y.seq.length
                · have b4 : (k : Int) < y.seq.length := by omega
                  go_wp2_with fail
                  go_roundw
                  case rel => exact ⟨q + 1, by go_num, by omega, by rw [any_take HY.out, HA2.out, HNC.out]; rfl, HBE.out⟩
                  case measure => simp [intOf]; omega
                · have b4 : ¬ ((k : Int) < y.seq.length) := by omega
                  go_wp2_with fail
                  go_roundw
                  case rel => exact ⟨q + 1, by go_num, by omega, by rw [any_take HY.out, HA2.out, HNC.out]; rfl, HBE.out⟩
                  case measure => simp [intOf]; omega
              | true =>
                have HNC := Lib.hid (show ndC b neg y = y.seq.any (ndS b) by unfold ndC; rw [← HNG.out, hne]; rfl)
                by_cases hltk : k < y.seq.length
                · have b4 : (k : Int) < y.seq.length := by omega
                  obtain ⟨s, hs⟩ : ∃ s, y.seq[k]? = some s := ⟨_, List.getElem?_eq_getElem hltk⟩
                  obtain ⟨sd, eS, -, z0, -⟩ := sym_at (HSS.out.mono HB3.out) hs
                  subst eS
                  by_cases hsb : s.name = b
                  · have d2 : (s.name == b) = true := by simp [hsb]
                    have HZ := Lib.hid (show needsR G a b neg = true by
                      rw [needsR_eq]
                      exact any_good HX.out (by rw [HR.out]; exact any_good HY.out (by rw [HNC.out]; exact any_good hs (by unfold ndS; exact decide_eq_true hsb))))
                    clear hs hsb
                    go_wp2_with fail
                    go_ret
                    exact ⟨by rw [HZ.out]; rfl, below_trans HB0.out (below_trans HB.out HBE.out)⟩
                  · have d2 : (s.name == b) = false := by simp [hsb]
                    have HZ := Lib.hid (show ndS b s = false by unfold ndS; exact decide_eq_false hsb)
                    have HSK := Lib.hid hs
                    clear hs hsb
                    go_wp2_with fail
                    go_roundw
                    case rel => exact ⟨k + 1, by go_num, by omega, by rw [any_take HSK.out, HA3.out, HZ.out]; rfl, HB3.out⟩
                    case measure => simp [intOf]; omega
                · have hke : k = y.seq.length := by omega
                  have b4 : ¬ ((k : Int) < y.seq.length) := by omega
                  have HZ := Lib.hid (show ndC b neg y = false by rw [HNC.out]; have := HA3.out; rw [hke, List.take_length] at this; exact this)
                  clear hke
                  go_wp2_with fail
                  go_roundw
                  case rel => exact ⟨q + 1, by go_num, by omega, by rw [any_take HY.out, HA2.out, HZ.out]; rfl, HBE.out⟩
                  case measure => simp [intOf]; omega
          · have hqe : q = x.conj.length := by omega
            have b3 : ¬ ((q : Int) < x.conj.length) := by omega
            have HZ := Lib.hid (show ndR a b neg x = false by rw [HR.out]; have := HA2.out; rw [hqe, List.take_length] at this; exact this)
            clear hqe hCC
            go_wp2_with fail
            go_roundw
            case rel => exact ⟨i + 1, by go_num, by omega, by rw [any_take HX.out, HA.out, HZ.out]; rfl, HBB.out⟩
            case measure => simp [intOf]; omega
      · have d1 : (x.head != a) = true := by simp [hh]
        have HR := Lib.hid (show ndR a b neg x = false by unfold ndR; rw [decide_eq_false hh]; rfl)
        clear hx hh hCC
        go_wp2_with fail
        go_roundw
        case rel => exact ⟨i + 1, by go_num, by omega, by rw [any_take HX.out, HA.out, HR.out]; rfl, HB.out⟩
        case measure => simp [intOf]; omega
    · have hie : i = G.rules.length := by omega
      subst hie
      go_wp2_with fail
      go_ret
      exact ⟨by rw [needsR_eq]; have := HA.out; rw [List.take_length] at this; rw [this]; rfl, below_trans HB0.out HB.out⟩

theorem edgesOf_in {G : Gram} (M : MayG G) : EdgesIn G.names.length (edgesOf G) := by
  intro e he
  obtain ⟨r, hr, c, hc, s, hs, h0, rfl⟩ := mem_edgesOf.1 he
  obtain ⟨i, hi⟩ := List.getElem?_of_mem hr
  obtain ⟨j, hj⟩ := List.getElem?_of_mem hc
  obtain ⟨k, hk⟩ := List.getElem?_of_mem hs
  have h1 := M.head i r hi
  have h2 := symB_lt (M.sym i r j c k s hi hj hk) (by have := M.K1; omega)
  simp only
  omega
/-- The edges found so far. -/
structure EFd (G : Gram) (a b k : Nat) (es : List Edg) : Prop where
  s : ∀ e ∈ es, e ∈ edgesOf G
  f : ∀ e ∈ edgesOf G, (e.fr < a ∨ (e.fr = a ∧ (e.to < b ∨ (e.to = b ∧ e.neg.toNat < k)))) → e ∈ es
  len : es.length ≤ a * 128 + b * 2 + k
theorem EFd.step {G : Gram} (M : MayG G) {a b k : Nat} {es : List Edg} (h : EFd G a b k es) {neg : Bool} (hk : neg.toNat = k) (hn : needsR G a b neg = false) : EFd G a b (k + 1) es := by
  refine ⟨h.s, fun e he hb => ?_, by have := h.len; omega⟩
  by_cases hh : e.fr = a ∧ e.to = b ∧ e.neg.toNat = k
  · obtain ⟨rfl, rfl, h3⟩ := hh
    have e3 : e.neg = neg := by have h1 := hk.trans h3.symm; revert h1; cases e.neg <;> cases neg <;> decide
    have := (needsR_iff M (a := e.fr) (b := e.to) (neg := neg)).2 (by rw [← e3]; exact he)
    rw [hn] at this
    cases this
  · exact h.f e he (by omega)
theorem EFd.put {G : Gram} (M : MayG G) {a b k : Nat} {es : List Edg} (h : EFd G a b k es) {neg : Bool} (hk : neg.toNat = k) (hn : needsR G a b neg = true) : EFd G a b (k + 1) (es ++ [⟨a, b, neg⟩]) := by
  refine ⟨fun e he => ?_, fun e he hb => ?_, by have := h.len; simp; omega⟩
  · rcases List.mem_append.1 he with he | he
    · exact h.s e he
    · rw [List.mem_singleton.1 he]; exact (needsR_iff M).1 hn
  · rw [List.mem_append]
    by_cases hh : e.fr = a ∧ e.to = b ∧ e.neg.toNat = k
    · obtain ⟨rfl, rfl, h3⟩ := hh
      have e3 : e.neg = neg := by have h1 := hk.trans h3.symm; revert h1; cases e.neg <;> cases neg <;> decide
      exact .inr (List.mem_singleton.2 (by rw [← e3]))
    · exact .inl (h.f e he (by omega))
theorem toNat_lt2 (b : Bool) : b.toNat < 2 := by cases b <;> decide
def ER1 (G : Gram) (w : World) (cnt sa : Value) (wr : World) : Prop := ∃ (a : Nat) (v : Value) (es : List Edg), cnt = .int .i64 a ∧ sa = v ∧ a ≤ G.names.length ∧ EFd G a 0 0 es ∧ Own edgRd 114 w.heap.size wr v es ∧ Below w.heap.size w wr
def ER2 (G : Gram) (w : World) (a : Nat) (cnt sa : Value) (wr : World) : Prop := ∃ (b : Nat) (v : Value) (es : List Edg), cnt = .int .i64 b ∧ sa = v ∧ b ≤ G.names.length ∧ EFd G a b 0 es ∧ Own edgRd 114 w.heap.size wr v es ∧ Below w.heap.size w wr
def ER3 (G : Gram) (w : World) (a b : Nat) (cnt sa : Value) (wr : World) : Prop := ∃ (k : Nat) (v : Value) (es : List Edg), cnt = .int .i64 k ∧ sa = v ∧ k ≤ 2 ∧ EFd G a b k es ∧ Own edgRd 114 w.heap.size wr v es ∧ Below w.heap.size w wr
/-- What Edges answers of a grammar that may be. -/
def EdgesGood (w : World) (G : Gram) (e : Ending) (w' : World) : Prop := ∃ (A : Option Addr) (c : Nat) (es : List Edg), e = .returned (.tuple #[.slice A es.length c, .int .i64 0]) ∧ edgRd.C w' A es ∧ (∀ e, e ∈ es ↔ e ∈ edgesOf G) ∧ es.length ≤ 10000 ∧ Below w.heap.size w w'
theorem infoEdge' : (Tryz.prog.info? 114).map (fun i => (i.zero, i.size, i.bytes)) = some (some (.agg #[.int .i64 0, .int .i64 0, .bool false]), 3, 24) := by kernel_rfl

set_option maxRecDepth 100000 in
set_option maxHeartbeats 8000000 in
theorem redges_good {w : World} {G : Gram} {A A' : Option Addr} {c c' : Nat} (M : MayG G) (n6 : rulRd.C w A' G.rules)
    (hMay : ∀ w1, Below w.heap.size w w1 → Calls Tryz.prog 60 #[gVal G A c A' c'] w1 fun e w' => e = .returned (.bool true) ∧ Below w1.heap.size w1 w') :
    Calls Tryz.prog 40 #[gVal G A c A' c'] w (EdgesGood w G) := by
  have hK := M.K64
  have hb0 : Below w.heap.size w (w.alloc (Obj.cells #[Value.int .i64 G.start, Value.slice A G.names.length c, Value.slice A' G.rules.length c'] 25)) := below_alloc' (below_refl w) _
  have B0 := heap_alloc_new w (Obj.cells #[Value.int .i64 G.start, Value.slice A G.names.length c, Value.slice A' G.rules.length c'] 25)
  have N6 := Lib.hid (n6.mono hb0)
  obtain ⟨bg, hbg⟩ : ∃ bg, bg = w.heap.size := ⟨_, rfl⟩
  have HG := Lib.hid B0
  have HB0 := Lib.hid hb0
  have HM := Lib.hid (hMay _ hb0)
  clear n6 hb0 B0 hMay
  go_enter Tryz.func40, Tryz.ntmps40
  go_wp2_with fail
  rw [← hbg] at HG ⊢
  clear hbg
  generalize w.alloc (Obj.cells #[Value.int .i64 G.start, Value.slice A G.names.length c, Value.slice A' G.rules.length c'] 25) = w0 at N6 HG HB0 HM ⊢
  have x0 : w0.cell? ⟨bg, 0, none⟩ = some (.int .i64 G.start) := blk_cell HG.out 0
  have x1 : w0.cell? ⟨bg, 1, none⟩ = some (.slice A G.names.length c) := blk_cell HG.out 1
  have x2 : w0.cell? ⟨bg, 2, none⟩ = some (.slice A' G.rules.length c') := blk_cell HG.out 2
  go_wp2_with (first | (go_at_call 60; refine HM.out.mono ?_; rintro e w1 ⟨rfl, hb1⟩; have HB1 := Lib.hid hb1; clear hb1) | fail)
  clear x0 x1 x2
  go_loopw [5, 4] (fun cnt sa wr => ER1 G w0 cnt sa wr) (fun cnt _ _ => G.names.length - (intOf cnt).toNat)
  case atStart => exact ⟨0, _, [], rfl, rfl, Nat.zero_le _, ⟨fun e he => (by cases he), fun e he hb => by omega, by simp⟩, Own.nil _ _ _ _, HB1.out⟩
  case round =>
    clear HB1
    obtain ⟨a, v, es, rfl, rfl, ha, hf, ho, hb⟩ := hrel
    have HF := Lib.hid hf
    have HB := Lib.hid hb
    obtain ⟨Ae, ke, rfl, -, -, -⟩ := id ho.shape
    have HO := Lib.hid ho
    have x1 : wr.cell? ⟨bg, 1, none⟩ = some (.slice A G.names.length c) := blk_cell (blk_below HG.out hb) 1
    clear hf ho hb
    by_cases hlt : a < G.names.length
    · have b1 : (a : Int) < G.names.length := by omega
      go_wp2_with fail
      clear x1
      go_loopw [6, 4] (fun cnt sa wi => ER2 G w0 a cnt sa wi) (fun cnt _ _ => G.names.length - (intOf cnt).toNat)
      case atStart => exact ⟨0, _, es, rfl, rfl, Nat.zero_le _, HF.out, HO.out, HB.out⟩
      case round =>
        clear HF HO HB
        obtain ⟨b, v2, es2, rfl, rfl, hb', hf, ho, hb⟩ := hrel
        have HF := Lib.hid hf
        have HB := Lib.hid hb
        obtain ⟨Ae2, ke2, rfl, -, -, -⟩ := id ho.shape
        have HO := Lib.hid ho
        have x1 : wr.cell? ⟨bg, 1, none⟩ = some (.slice A G.names.length c) := blk_cell (blk_below HG.out hb) 1
        clear hf ho hb
        by_cases hltb : b < G.names.length
        · have b2 : (b : Int) < G.names.length := by omega
          go_wp2_with fail
          clear x1
          go_loopw [7, 4] (fun cnt sa wi => ER3 G w0 a b cnt sa wi) (fun cnt _ _ => 2 - (intOf cnt).toNat)
          case atStart => exact ⟨0, _, es2, rfl, rfl, Nat.zero_le _, HF.out, HO.out, HB.out⟩
          case round =>
            clear HF HO HB
            obtain ⟨k, v3, es3, rfl, rfl, hk, hf, ho, hb⟩ := hrel
            have HF := Lib.hid hf
            have HB := Lib.hid hb
            obtain ⟨Ae3, ke3, rfl, -, -, -⟩ := id ho.shape
            have HO := Lib.hid ho
            have x0 : wr.cell? ⟨bg, 0, none⟩ = some (.int .i64 G.start) := blk_cell (blk_below HG.out hb) 0
            have x1 : wr.cell? ⟨bg, 1, none⟩ = some (.slice A G.names.length c) := blk_cell (blk_below HG.out hb) 1
            have x2 : wr.cell? ⟨bg, 2, none⟩ = some (.slice A' G.rules.length c') := blk_cell (blk_below HG.out hb) 2
            clear hf ho hb
            by_cases hltk : k < 2
            · have hlen : es3.length ≤ 9000 := by have := HF.out.len; omega
              obtain ⟨neg, hneg⟩ : ∃ neg : Bool, neg.toNat = k := by
                rcases (show k = 0 ∨ k = 1 by omega) with rfl | rfl
                · exact ⟨false, rfl⟩
                · exact ⟨true, rfl⟩
              have d1 : ((k : Int) == 1) = neg := by cases neg <;> (simp at hneg; subst hneg; rfl)
              have b3 : (k : Int) < 2 := by omega
              have HK := Lib.hid hneg
              obtain ⟨nd, hnd⟩ : ∃ nd, nd = needsR G a b neg := ⟨_, rfl⟩
              have HC := Lib.hid (show Calls Tryz.prog 61 #[gVal G A c A' c', .int .i64 a, .int .i64 b, .bool neg] wr fun e w' => e = .returned (.bool nd) ∧ Below wr.heap.size wr w' by rw [hnd]; exact rneeds_any M (N6.out.mono HB.out) a b neg)
              have HND := Lib.hid hnd
              clear hneg hnd
              cases nd with
              | false =>
                go_wp2_with (first | (go_at_call 61; refine HC.out.mono ?_; rintro e w5 ⟨rfl, hb5⟩; have HB5 := Lib.hid hb5; clear hb5) | fail)
                go_roundw
                case rel => exact ⟨k + 1, _, es3, by go_num, rfl, by omega, HF.out.step M HK.out HND.out.symm, HO.out.below HB5.out, below_trans HB.out HB5.out⟩
                case measure => simp [intOf]; omega
              | true =>
                go_wp2_with (first
                  | (go_at_call 61; refine HC.out.mono ?_; rintro e w5 ⟨rfl, hb5⟩; have HB5 := Lib.hid hb5; have HO5 := Lib.hid (HO.out.below hb5); clear hb5)
                  | (at_builtin; refine wpList_append_one (d := edgRd) rfl (base := w0.heap.size) (.tmp 35) (.tmp 41) 110 114 _ 24 (by rfl) Tryz.underlying110 infoEdge' (by rfl) (by decide) (v := .slice Ae3 es3.length ke3) (xs := es3) (by rfl) (HO5.out.below (below_alloc' (below_refl _) _)) (⟨a, b, neg⟩ : Edg) #[.int .i64 a, .int .i64 b, .bool neg] (fun w' _ => edgRd_mk w' ⟨a, b, neg⟩) (b := w5.heap.size) (c := 1) (by rfl) (heap_alloc_new w5 _) (by omega) (by decide) (by have := HB.out.size; have := HB5.out.size; simp; omega) ?_; intro v8 w8 o8 g8 t8; have O8 := Lib.hid o8; have G8 := Lib.hid g8; clear o8 g8 t8)
                  | fail)
                go_roundw
                case rel => exact ⟨k + 1, _, _, by go_num, rfl, by omega, HF.out.put M HK.out HND.out.symm, O8.out, below_grown (below_alloc' (below_trans HB.out HB5.out) _) G8.out (fun k hk => (HO5.out.base hk).1)⟩
                case measure => simp [intOf]; omega
            · have hke : k = 2 := by omega
              subst hke
              clear x0 x1 x2
              go_wp2_with fail
              go_roundw
              case rel => exact ⟨b + 1, _, es3, by go_num, rfl, by omega, ⟨HF.out.s, fun e he hbb => HF.out.f e he (by have := toNat_lt2 e.neg; omega), by have := HF.out.len; omega⟩, HO.out, HB.out⟩
              case measure => simp [intOf]; omega
        · have b2 : ¬ ((b : Int) < G.names.length) := by omega
          go_wp2_with fail
          go_roundw
          case rel => exact ⟨a + 1, _, es2, by go_num, rfl, by omega, ⟨HF.out.s, fun e he hbb => HF.out.f e he (by have := (edgesOf_in M e he).2; omega), by have := HF.out.len; omega⟩, HO.out, HB.out⟩
          case measure => simp [intOf]; omega
    · have b1 : ¬ ((a : Int) < G.names.length) := by omega
      go_wp2_with fail
      go_ret2
      exact ⟨Ae, ke, es, rfl, HO.out.rd |> fun h => (HO.out.shape).elim fun A1 h1 => h1.elim fun c1 h2 => by obtain ⟨e, -, -, h3⟩ := h2; cases e; exact h3, fun e => ⟨HF.out.s e, fun he => HF.out.f e he (.inl (by have := (edgesOf_in M e he).1; omega))⟩, by have := HF.out.len; omega, below_trans HB0.out HB.out⟩
end Go.Proofs.YtbidpeggdhkahaaGreat

set_option linter.unusedSimpArgs false
set_option linter.unusedVariables false
namespace Go.Proofs.YtbidpeggdhkahaaGreat
open Go.RowKit
attribute [local go_sem] max2_mxz max_mxz

theorem infoBool6 : (Tryz.prog.info? 4).map (fun i => (i.zero, i.size, i.bytes)) = some (some (.bool false), 1, 1) := by kernel_rfl
def bObj6 (n : Nat) : Obj := .cells (madeCells #[.bool false] n) 4 (0, 0)
theorem mkbool6_run (S : Nat) (h : S ≤ 200000000) : ∀ w : World, (Instr.makeSlice 71 (.int .i64 (S : Int)) (.int .i64 (S : Int))).run Tryz.prog w = .ok (.slice (some ⟨w.heap.size, 0, none⟩) S S) (w.alloc (bObj6 S)) := by
  intro w
  obtain ⟨i0, hi, hz0, hz1, hz2⟩ := info_parts infoBool6
  have h := run_make (P := Tryz.prog) w 71 4 i0 (.bool false) Tryz.underlying71 hi hz0 .i64 .i64 (S : Int) (S : Int) (by omega) (by omega) (by rw [hz2]; omega) (by omega)
  rw [h, hz1]
  simp only [Int.toNat_natCast, Nat.mul_one, bObj6]
  rfl
/-- A row of one-cell values. -/
def VRow (w : World) (g S : Nat) (f : Nat → Value) : Prop := ∀ p, p < S → w.cell? ⟨g, p, none⟩ = some (f p) ∧ w.frozen? ⟨g, p, none⟩ = false
theorem VRow.below {w w' : World} {g S : Nat} {f : Nat → Value} (h : VRow w g S f) (hb : Below w.heap.size w w') : VRow w' g S f := fun p hp => ⟨below_cell hb (h p hp).1, below_froz hb (h p hp).1 (h p hp).2⟩
theorem VRow.congr {w : World} {g S : Nat} {f f' : Nat → Value} (h : VRow w g S f) (e : ∀ p, p < S → f p = f' p) : VRow w g S f' := fun p hp => by rw [← e p hp]; exact h p hp
theorem VRow.made {w : World} {g S : Nat} {t : TypeId} {v : Value} (h : w.heap[g]? = some (.cells (madeCells #[v] S) t (0, 0))) : VRow w g S (fun _ => v) := fun p hp => by
  refine ⟨?_, blk_frozen h p⟩
  rw [blk_cell h, ← Array.getElem?_toList, toList_madeCells_one]
  simp [hp]
theorem VRow.set {w : World} {g S : Nat} {f : Nat → Value} (h : VRow w g S f) {q : Nat} (hq : q < S) (v : Value) : VRow (w.setCell ⟨g, q, none⟩ v) g S (fun p => if p = q then v else f p) := by
  intro p hp
  refine ⟨?_, by simpa using (h p hp).2⟩
  by_cases e : p = q
  · subst e
    rw [World.cell?_setCell_same _ _ _ (h p hp).1]
    simp
  · rw [World.cell?_setCell_other _ _ _ _ (fun e' => e (by injection e' with _ e2; exact e2.symm)), (h p hp).1]
    simp [e]
theorem path_congr {es es' : List Edg} (h : ∀ e, e ∈ es → e ∈ es') {a b : Nat} (p : Path es a b) : Path es' a b := by
  induction p with
  | refl => exact .refl _
  | step he _ ih => exact .step (h _ he) ih
theorem negcyc_congr {es es' : List Edg} (h : ∀ e, e ∈ es → e ∈ es') (c : NegCyc es) : NegCyc es' := by
  obtain ⟨e, he, hn, p⟩ := c
  exact ⟨e, h e he, hn, path_congr h p⟩

def MayRel6 (w : World) (es : List Edg) (cnt : Value) (wr : World) : Prop := ∃ k : Nat, cnt = .int .i64 k ∧ k ≤ es.length ∧ Below w.heap.size w wr
set_option maxRecDepth 100000 in
set_option maxHeartbeats 8000000 in
theorem redgesMay_good {w : World} {K : Nat} {es : List Edg} {A : Option Addr} {c : Nat} (hK : K ≤ 64) (hE : EdgesIn K es) (hC : edgRd.C w A es) (hl : es.length ≤ 10000) :
    Calls Tryz.prog 62 #[.int .i64 K, .slice A es.length c] w fun e w' => e = .returned (.bool true) ∧ Below w.heap.size w w' := by
  have k1 : decide ((0 : Int) ≤ K) = true := by simp
  have k2 : decide ((K : Int) ≤ 64) = true := by simp; omega
  go_enter Tryz.func62, Tryz.ntmps62
  go_wp2_with fail
  go_loopw [5] (fun cnt wr => MayRel6 w es cnt wr) (fun cnt _ => es.length - (intOf cnt).toNat)
  case atStart => exact ⟨0, rfl, Nat.zero_le _, below_refl _⟩
  case round =>
    obtain ⟨k, rfl, hk, hb⟩ := hrel
    have HB := Lib.hid hb
    clear hb
    by_cases hlt : k < es.length
    · obtain ⟨x, hx⟩ : ∃ x, es[k]? = some x := ⟨_, List.getElem?_eq_getElem hlt⟩
      obtain ⟨ad, eA, -, q0, q1, q2⟩ := edg_at (hC.mono HB.out) hx
      subst eA
      have hki : (k : Int) < es.length := by omega
      have hin := hE x (List.mem_of_getElem? hx)
      have d1 : decide ((x.fr : Int) < 0) = false := by simp
      have d2 : decide ((K : Int) ≤ x.fr) = false := by simp; omega
      have d3 : decide ((x.to : Int) < 0) = false := by simp
      have d4 : decide ((K : Int) ≤ x.to) = false := by simp; omega
      have f1 := hin.1
      have f2 := hin.2
      clear hx hin
      go_wp2_with fail
      go_roundw
      case rel => exact ⟨k + 1, by go_num, hlt, HB.out⟩
      case measure => simp [intOf]; omega
    · go_wp2
      go_ret
      exact ⟨rfl, HB.out⟩

/-- What a round of reach has so far. -/
structure RcFd (es : List Edg) (from' : Nat) (o0 : Nat → Bool) (i : Nat) (o1 : Nat → Bool) : Prop where
  mono : ∀ j, o0 j = true → o1 j = true
  sound : ∀ j, o1 j = true → Path es from' j
  done : ∀ e ∈ es.take i, o0 e.fr = true → o1 e.to = true
def bV (f : Nat → Bool) : Nat → Value := fun p => .bool (f p)
def RcR1 (w : World) (K : Nat) (es : List Edg) (from' g : Nat) (cnt : Value) (wr : World) : Prop := ∃ (r : Nat) (f : Nat → Bool), cnt = .int .i64 r ∧ r ≤ K ∧ VRow wr g K (bV f) ∧ RchInv K es from' r f ∧ Below w.heap.size w wr
def RcR2 (w : World) (K : Nat) (es : List Edg) (from' g : Nat) (o0 : Nat → Bool) (cnt : Value) (wr : World) : Prop := ∃ (i : Nat) (f : Nat → Bool), cnt = .int .i64 i ∧ i ≤ es.length ∧ VRow wr g K (bV f) ∧ RcFd es from' o0 i f ∧ Below w.heap.size w wr
def RchPost (w : World) (K : Nat) (es : List Edg) (from' : Nat) (e : Ending) (w' : World) : Prop := ∃ (g : Nat) (f : Nat → Bool), e = .returned (.slice (some ⟨g, 0, none⟩) K K) ∧ VRow w' g K (bV f) ∧ (∀ j, f j = true ↔ Path es from' j) ∧ Below w.heap.size w w'
theorem RcFd.skip {es : List Edg} {from' i : Nat} {o0 o1 : Nat → Bool} (h : RcFd es from' o0 i o1) {y : Edg} (hy : es[i]? = some y) (hf : o1 y.fr = false) : RcFd es from' o0 (i + 1) o1 := by
  refine ⟨h.mono, h.sound, fun e he h0 => ?_⟩
  rw [take_snoc hy] at he
  rcases List.mem_append.1 he with he | he
  · exact h.done e he h0
  · rw [List.mem_singleton.1 he] at h0
    have := h.mono _ h0
    rw [hf] at this
    cases this
theorem RcFd.put {es : List Edg} {from' i : Nat} {o0 o1 : Nat → Bool} (h : RcFd es from' o0 i o1) {y : Edg} (hy : es[i]? = some y) (hf : o1 y.fr = true) : RcFd es from' o0 (i + 1) (fun p => if p = y.to then true else o1 p) := by
  refine ⟨fun j hj => ?_, fun j hj => ?_, fun e he h0 => ?_⟩
  · try simp only
    split
    · rfl
    · exact h.mono j hj
  · try simp only at hj
    split at hj
    · rename_i e; subst e; exact (h.sound _ hf).snoc (List.mem_of_getElem? hy)
    · exact h.sound j hj
  · rw [take_snoc hy] at he
    try simp only
    rcases List.mem_append.1 he with he | he
    · split
      · rfl
      · exact h.done e he h0
    · rw [List.mem_singleton.1 he]
      simp
theorem RcFd.all {K : Nat} {es : List Edg} {from' r : Nat} {o0 o1 : Nat → Bool} (hE : EdgesIn K es) (I : RchInv K es from' r o0) (h : RcFd es from' o0 es.length o1) : RchInv K es from' (r + 1) o1 :=
  rch_round hE I h.mono h.sound (fun e he => h.done e (by rw [List.take_length]; exact he))

set_option maxRecDepth 100000 in
set_option maxHeartbeats 8000000 in
theorem rreached_good {w : World} {K : Nat} {es : List Edg} {A : Option Addr} {c : Nat} (hK : K ≤ 64) (hE : EdgesIn K es) (hC : edgRd.C w A es) (hl : es.length ≤ 10000) {from' : Nat} (hf : from' < K) :
    Calls Tryz.prog 63 #[.int .i64 K, .slice A es.length c, .int .i64 from'] w (RchPost w K es from') := by
  have hmk := mkbool6_run K (by omega)
  have hfi : (from' : Int) < K := by omega
  go_enter Tryz.func63, Tryz.ntmps63
  have h0 := heap_alloc_new w (bObj6 K)
  have hb0 := below_alloc' (below_refl w) (bObj6 K)
  have HV0 := Lib.hid (VRow.made h0)
  have HV1 := Lib.hid (HV0.out.set hf (.bool true))
  have HB1 := Lib.hid (show Below w.heap.size w ((w.alloc (bObj6 K)).setCell ⟨w.heap.size, from', none⟩ (.bool true)) from below_setNew hb0 (Nat.le_refl _) _)
  have x0 := (HV0.out from' hf).1
  have x1 := (HV0.out from' hf).2
  go_wp2_with fail
  clear x0 x1 h0 hb0 HV0 hmk
  generalize (w.alloc (bObj6 K)).setCell ⟨w.heap.size, from', none⟩ (.bool true) = w1 at HV1 HB1 ⊢
  have HV := Lib.hid (show VRow w1 w.heap.size K (bV (fun j => decide (j = from'))) from HV1.out.congr (fun p _ => by unfold bV; by_cases e : p = from' <;> simp [e]))
  clear HV1
  obtain ⟨g, hg⟩ : ∃ g, g = w.heap.size := ⟨_, rfl⟩
  rw [← hg] at HV ⊢
  have HGW := Lib.hid (show w.heap.size ≤ g by omega)
  clear hg
  go_loopw [8] (fun cnt wr => RcR1 w K es from' g cnt wr) (fun cnt _ => K - (intOf cnt).toNat)
  case atStart => exact ⟨0, _, rfl, Nat.zero_le _, HV.out, rch_start hf, HB1.out⟩
  case round =>
    clear HV HB1
    obtain ⟨r, f, rfl, hr, hv, hi, hb⟩ := hrel
    have HV := Lib.hid hv
    have HI := Lib.hid hi
    have HB := Lib.hid hb
    clear hv hi hb
    by_cases hlt : r < K
    · have b1 : (r : Int) < K := by omega
      go_wp2_with fail
      go_loopw [9] (fun cnt wi => RcR2 w K es from' g f cnt wi) (fun cnt _ => es.length - (intOf cnt).toNat)
      case atStart => exact ⟨0, f, rfl, Nat.zero_le _, HV.out, ⟨fun _ h => h, HI.out.sound, fun e he => by cases he⟩, HB.out⟩
      case round =>
        clear HV HB
        obtain ⟨i, f1, rfl, hi, hv, hd, hb⟩ := hrel
        have HV := Lib.hid hv
        have HD := Lib.hid hd
        have HB := Lib.hid hb
        clear hv hd hb
        by_cases hlti : i < es.length
        · obtain ⟨y, hy⟩ : ∃ y, es[i]? = some y := ⟨_, List.getElem?_eq_getElem hlti⟩
          obtain ⟨ad, eA, -, q0, q1, q2⟩ := edg_at (hC.mono HB.out) hy
          subst eA
          have hki : (i : Int) < es.length := by omega
          have hin := hE y (List.mem_of_getElem? hy)
          have f1' : (y.fr : Int) < K := by have := hin.1; omega
          have f2' : (y.to : Int) < K := by have := hin.2; omega
          have x0 := (HV.out y.fr hin.1).1
          have x1 := (HV.out y.to hin.2).1
          have x2 := (HV.out y.to hin.2).2
          unfold bV at x0 x1
          have HY := Lib.hid hy
          have HTO := Lib.hid hin.2
          clear hy hin
          cases hb : f1 y.fr with
          | false =>
            rw [hb] at x0
            go_wp2_with fail
            go_roundw
            case rel => exact ⟨i + 1, f1, by go_num, by omega, HV.out, HD.out.skip HY.out hb, HB.out⟩
            case measure => simp [intOf]; omega
          | true =>
            rw [hb] at x0
            go_wp2_with fail
            go_roundw
            case rel => exact ⟨i + 1, _, by go_num, by omega, (HV.out.set HTO.out (.bool true)).congr (fun p _ => by unfold bV; by_cases e : p = y.to <;> simp [e]), HD.out.put HY.out hb, below_setNew HB.out HGW.out _⟩
            case measure => simp [intOf]; omega
        · have hie : i = es.length := by omega
          subst hie
          have HN := Lib.hid (HD.out.all hE HI.out)
          go_wp2_with fail
          go_roundw
          case rel => exact ⟨r + 1, f1, by go_num, by omega, HV.out, HN.out, HB.out⟩
          case measure => simp [intOf]; omega
    · have hre : r = K := by omega
      subst hre
      go_wp2_with fail
      go_ret
      exact ⟨g, f, rfl, HV.out, fun j => rch_end HI.out j, HB.out⟩
theorem pathDec (es : List Edg) (a b : Nat) : ∃ v : Bool, v = true ↔ Path es a b := by
  by_cases h : Path es a b
  · exact ⟨true, by simp [h]⟩
  · exact ⟨false, by simp [h]⟩
set_option maxRecDepth 100000 in
set_option maxHeartbeats 8000000 in
theorem rreaches_good {w : World} {K : Nat} {es : List Edg} {A : Option Addr} {c : Nat} (hK : K ≤ 64) (hE : EdgesIn K es) (hC : edgRd.C w A es) (hl : es.length ≤ 10000) {fr to' : Nat} (hf : fr < K) (ht : to' < K) {v : Bool} (hv : v = true ↔ Path es fr to') :
    Calls Tryz.prog 41 #[.int .i64 K, .slice A es.length c, .int .i64 fr, .int .i64 to'] w fun e w' => e = .returned (.bool v) ∧ Below w.heap.size w w' := by
  have HM := Lib.hid (redgesMay_good (c := c) hK hE hC hl)
  have HR := Lib.hid (fun w1 (h1 : Below w.heap.size w w1) => rreached_good (c := c) hK hE (hC.mono h1) hl hf)
  have d1 : decide ((fr : Int) < 0) = false := by simp
  have d2 : decide ((K : Int) ≤ fr) = false := by simp; omega
  have d3 : decide ((to' : Int) < 0) = false := by simp
  have d4 : decide ((K : Int) ≤ to') = false := by simp; omega
  have b1 : (to' : Int) < K := by omega
  have HT := Lib.hid ht
  clear hC
  go_enter Tryz.func41, Tryz.ntmps41
  go_wp2_with (first
    | (go_at_call 62; refine HM.out.mono ?_; rintro e w1 ⟨rfl, hb1⟩; have HB1 := Lib.hid hb1; clear hb1)
    | (go_at_call 63; refine (HR.out w1 HB1.out).mono ?_; rintro e w2 ⟨g, f, rfl, hv2, hf2, hb2⟩; have HV2 := Lib.hid hv2; have HF2 := Lib.hid hf2; have HB2 := Lib.hid (below_trans HB1.out hb2); have x0 := (hv2 to' HT.out).1; unfold bV at x0; clear hv2 hf2 hb2)
    | fail)
  go_ret
  exact ⟨by have h := HF2.out to'; rw [← hv] at h; rw [show f to' = v from Bool.eq_iff_iff.2 h]; rfl, HB2.out⟩
end Go.Proofs.YtbidpeggdhkahaaGreat

set_option linter.unusedSimpArgs false
set_option linter.unusedVariables false
namespace Go.Proofs.YtbidpeggdhkahaaGreat
open Go.RowKit
attribute [local go_sem] max2_mxz max_mxz

def iV (f : Nat → Int) : Nat → Value := fun p => .int .i64 (f p)
/-- A round of levels, so far. -/
structure LvFd (K : Nat) (es : List Edg) (M F0 : Nat → Int) (i : Nat) (F1 : Nat → Int) : Prop where
  hi : ∀ j, j < K → F1 j ≤ M j
  lo : ∀ j, j < K → F0 j ≤ F1 j
  done : ∀ e ∈ es.take i, F0 e.to + negI e.neg ≤ F1 e.fr
theorem LvFd.put {K : Nat} {es : List Edg} {M F0 F1 : Nat → Int} {i : Nat} (hE : EdgesIn K es) (H : LevMin K es M) (h : LvFd K es M F0 i F1) {y : Edg} (hy : es[i]? = some y) {v : Int} (hv : v = mxz (F1 y.fr) (F1 y.to + negI y.neg)) : LvFd K es M F0 (i + 1) (fun p => if p = y.fr then v else F1 p) := by
  have hm := List.mem_of_getElem? hy
  obtain ⟨e1, e2⟩ := hE y hm
  have h1 := H.sol.edge y hm
  have h2 := h.hi y.to e2
  have h3 := h.hi y.fr e1
  have h4 := h.lo y.to e2
  have h5 := h.lo y.fr e1
  rw [mxz_eq] at hv
  refine ⟨fun j hj => ?_, fun j hj => ?_, fun e he => ?_⟩
  · try simp only
    split
    · rename_i e; subst e; omega
    · exact h.hi j hj
  · try simp only
    split
    · rename_i e; subst e; omega
    · exact h.lo j hj
  · rw [take_snoc hy] at he
    try simp only
    rcases List.mem_append.1 he with he | he
    · have h6 := h.done e he
      split
      · rename_i e'; rw [← e'] at hv; omega
      · exact h6
    · rw [List.mem_singleton.1 he, if_pos rfl]; omega
def SrR1 (w : World) (es : List Edg) (cnt : Value) (wr : World) : Prop := ∃ k : Nat, cnt = .int .i64 k ∧ k ≤ es.length ∧ Below w.heap.size w wr
def SrR2 (w : World) (K g : Nat) (M : Nat → Int) (cnt : Value) (wr : World) : Prop := ∃ (r : Nat) (F : Nat → Int), cnt = .int .i64 r ∧ r ≤ K + 1 ∧ VRow wr g K (iV F) ∧ (∀ j, j < K → 0 ≤ F j) ∧ (∀ j, j < K → F j ≤ M j) ∧ cntB (offB F M) K ≤ K - r ∧ Below w.heap.size w wr
def SrR3 (w : World) (K g : Nat) (es : List Edg) (M F0 : Nat → Int) (cnt : Value) (wr : World) : Prop := ∃ (i : Nat) (F1 : Nat → Int), cnt = .int .i64 i ∧ i ≤ es.length ∧ VRow wr g K (iV F1) ∧ LvFd K es M F0 i F1 ∧ Below w.heap.size w wr
/-- What Strata answers where levels are. -/
def StrGood (w : World) (G : Gram) (e : Ending) (w' : World) : Prop := ∃ (A : Option Addr) (c : Nat) (lev : List Int), GoodLev G lev ∧ e = .returned (.tuple #[.slice A lev.length c, .slice none 0 0, .int .i64 0]) ∧ Rd.int.C w' A lev ∧ Below w.heap.size w w'
theorem good_levOf {G : Gram} {es : List Edg} {M F : Nat → Int} (hm : mayB G = true) (hE : ∀ e, e ∈ es ↔ e ∈ edgesOf G) (hN : ¬ NegCyc es) (H : LevMin G.names.length es M) (hF : ∀ i, i < G.names.length → F i = M i) : GoodLev G (levOf G.names.length F) where
  may := hm
  cyc h := hN (negcyc_congr (fun e => (hE e).2) h)
  len := by simp [levOf]
  low i hi := by rw [levOf_getD hi, hF i hi]; exact ⟨H.sol.low i hi, H.sol.high i hi⟩
  edge e he := by
    obtain ⟨e1, e2⟩ := edgesOf_in (mayG hm) e he
    rw [levOf_getD e1, levOf_getD e2, hF _ e1, hF _ e2]
    exact H.sol.edge e ((hE e).2 he)
theorem lev_C {w : World} {g K : Nat} {F : Nat → Int} (h : VRow w g K (iV F)) : Rd.int.C w (some ⟨g, 0, none⟩) (levOf K F) := by
  intro i x hx
  have hi : i < K := by have := (List.getElem?_eq_some_iff.1 hx).1; simpa [levOf] using this
  have hv : x = F i := by simp [levOf, hi] at hx; exact hx.symm
  refine ⟨⟨g, 0, none⟩, [.int .i64 x], rfl, rfl, fun j v hj => ?_⟩
  cases j with
  | zero =>
    have : v = .int .i64 x := by simpa using hj.symm
    subst this
    rw [hv]
    have h1 := (h i hi).1
    rw [show i * Rd.int.sz + 0 = i from Nat.mul_one i, add_plain, Nat.zero_add]
    exact h1
  | succ j => simp at hj

set_option maxRecDepth 100000 in
set_option maxHeartbeats 16000000 in
theorem rstrata_good {w : World} {G : Gram} {A A' : Option Addr} {c c' : Nat} (hm : mayB G = true) (hN : ¬ NegCyc (edgesOf G)) (n6 : rulRd.C w A' G.rules)
    (hMay : ∀ w1, Below w.heap.size w w1 → Calls Tryz.prog 60 #[gVal G A c A' c'] w1 fun e w' => e = .returned (.bool true) ∧ Below w1.heap.size w1 w') :
    Calls Tryz.prog 27 #[gVal G A c A' c'] w (StrGood w G) := by
  have M := mayG hm
  have hK := M.K64
  have hb0 : Below w.heap.size w (w.alloc (Obj.cells #[Value.int .i64 G.start, Value.slice A G.names.length c, Value.slice A' G.rules.length c'] 25)) := below_alloc' (below_refl w) _
  have B0 := heap_alloc_new w (Obj.cells #[Value.int .i64 G.start, Value.slice A G.names.length c, Value.slice A' G.rules.length c'] 25)
  have HED := Lib.hid (redges_good M (n6.mono hb0) (fun w1 h1 => hMay w1 (below_trans hb0 h1)))
  obtain ⟨bg, hbg⟩ : ∃ bg, bg = w.heap.size := ⟨_, rfl⟩
  have HG := Lib.hid B0
  have HB0 := Lib.hid hb0
  clear n6 hb0 B0 hMay
  go_enter Tryz.func27, Tryz.ntmps27
  go_wp2_with fail
  rw [← hbg] at HG ⊢
  clear hbg
  generalize w.alloc (Obj.cells #[Value.int .i64 G.start, Value.slice A G.names.length c, Value.slice A' G.rules.length c'] 25) = w0 at HG HB0 HED ⊢
  have x0 : w0.cell? ⟨bg, 0, none⟩ = some (.int .i64 G.start) := blk_cell HG.out 0
  have x1 : w0.cell? ⟨bg, 1, none⟩ = some (.slice A G.names.length c) := blk_cell HG.out 1
  have x2 : w0.cell? ⟨bg, 2, none⟩ = some (.slice A' G.rules.length c') := blk_cell HG.out 2
  go_upto_region 4 with (first | (go_at_call 40; refine HED.out.mono ?_; rintro e w1 ⟨Ae, ce, es, rfl, hC, hEs, hl, hb1⟩; have HC := Lib.hid hC; have HEs := Lib.hid hEs; have HB1 := Lib.hid hb1; clear hC hEs hb1) | fail)
  clear x0 x1 x2
  have y1 : w1.cell? ⟨bg, 1, none⟩ = some (.slice A G.names.length c) := blk_cell (blk_below HG.out HB1.out) 1
  have HE := Lib.hid (show EdgesIn G.names.length es from fun e he => edgesOf_in M e ((HEs.out e).1 he))
  have HNC := Lib.hid (show ¬ NegCyc es from fun h => hN (negcyc_congr (fun e => (HEs.out e).1) h))
  obtain ⟨K, hKe⟩ : ∃ K, K = G.names.length := ⟨_, rfl⟩
  rw [← hKe] at y1 hK HE
  have HKE := Lib.hid hKe
  clear hKe
  go_wp2_with fail
  clear y1
  go_loopw [8] (fun cnt wr => SrR1 w1 es cnt wr) (fun cnt _ => es.length - (intOf cnt).toNat)
  case atStart => exact ⟨0, rfl, Nat.zero_le _, below_refl _⟩
  case round =>
    obtain ⟨k, rfl, hk, hb⟩ := hrel
    have HB := Lib.hid hb
    clear hb
    by_cases hlt : k < es.length
    · obtain ⟨y, hy⟩ : ∃ y, es[k]? = some y := ⟨_, List.getElem?_eq_getElem hlt⟩
      obtain ⟨ad, eA, -, q0, q1, q2⟩ := edg_at (HC.out.mono HB.out) hy
      subst eA
      have hki : (k : Int) < es.length := by omega
      obtain ⟨v, hv⟩ := pathDec es y.to y.fr
      have hin := HE.out y (List.mem_of_getElem? hy)
      have HRC := Lib.hid (show ∀ w5, Below wr.heap.size wr w5 → Calls Tryz.prog 41 #[.int .i64 K, .slice (some ad) es.length ce, .int .i64 y.to, .int .i64 y.fr] w5 fun e w' => e = .returned (.bool v) ∧ Below w5.heap.size w5 w' from fun w5 h5 => rreaches_good hK HE.out (HC.out.mono (below_trans HB.out h5)) hl hin.2 hin.1 hv)
      have HY := Lib.hid hy
      obtain ⟨ng, hng⟩ : ∃ ng, ng = y.neg := ⟨_, rfl⟩
      rw [← hng] at q2
      have Q0 := Lib.hid q0
      have Q1 := Lib.hid q1
      have Q2 := Lib.hid q2
      cases ng with
      | false =>
        clear hy hin hv hng q0 q1 q2
        go_wp2_with fail
        refine wp_region_below (by kernel_rfl) (by kernel_rfl) ?_
        repeat (first
          | (refine qv_skip (by rfl) ?_; simp only [Act.put, List.setIfInBounds_toArray, List.set_cons_zero, List.set_cons_succ])
          | (refine qv_val' (by rfl) ?_; apply Exists.intro; refine ⟨fun w5 hC => ?_, ?_⟩; (have qqr0 := below_cell hC Q0.out; have qqr1 := below_cell hC Q1.out; have qqr2 := below_cell hC Q2.out; go_simp; rfl); simp only [Act.put, List.setIfInBounds_toArray, List.set_cons_zero, List.set_cons_succ])
          | (refine qv_call' (by rfl) ?_; apply Exists.intro; apply Exists.intro; apply Exists.intro; refine ⟨fun w5 hC => ?_, fun w5 hC => ?_, ?_⟩; (go_simp; first | rfl | exact ⟨rfl, rfl⟩); (first | (go_at_call 41; with_reducible exact calls_in hC (HRC.out w5 hC))); simp only [Act.put, List.setIfInBounds_toArray, List.set_cons_zero, List.set_cons_succ]))
        refine qv_nil ?_
        intro w5 hC
        have HB5 := Lib.hid hC
        clear hC
        go_wp2_with fail
        go_roundw
        case rel => exact ⟨k + 1, by go_num, by omega, below_trans HB.out HB5.out⟩
        case measure => simp [intOf]; omega
      | true =>
        have hvf : v = false := by
          cases v with
          | false => rfl
          | true => exact absurd ⟨y, List.mem_of_getElem? hy, hng.symm, hv.1 rfl⟩ HNC.out
        subst hvf
        clear hy hin hv hng q0 q1 q2
        go_wp2_with fail
        refine wp_region_below (by kernel_rfl) (by kernel_rfl) ?_
        repeat (first
          | (refine qv_skip (by rfl) ?_; simp only [Act.put, List.setIfInBounds_toArray, List.set_cons_zero, List.set_cons_succ])
          | (refine qv_val' (by rfl) ?_; apply Exists.intro; refine ⟨fun w5 hC => ?_, ?_⟩; (have qqr0 := below_cell hC Q0.out; have qqr1 := below_cell hC Q1.out; have qqr2 := below_cell hC Q2.out; go_simp; rfl); simp only [Act.put, List.setIfInBounds_toArray, List.set_cons_zero, List.set_cons_succ])
          | (refine qv_call' (by rfl) ?_; apply Exists.intro; apply Exists.intro; apply Exists.intro; refine ⟨fun w5 hC => ?_, fun w5 hC => ?_, ?_⟩; (go_simp; first | rfl | exact ⟨rfl, rfl⟩); (first | (go_at_call 41; with_reducible exact calls_in hC (HRC.out w5 hC))); simp only [Act.put, List.setIfInBounds_toArray, List.set_cons_zero, List.set_cons_succ]))
        refine qv_nil ?_
        intro w5 hC
        have HB5 := Lib.hid hC
        clear hC
        go_wp2_with fail
        go_roundw
        case rel => exact ⟨k + 1, by go_num, by omega, below_trans HB.out HB5.out⟩
        case measure => simp [intOf]; omega
    · have b3 : ¬ ((k : Int) < es.length) := by omega
      have HB2 := Lib.hid (below_trans HB1.out HB.out)
      have HC2 := Lib.hid (HC.out.mono HB.out)
      have hmk := mkw_run K (by omega)
      obtain ⟨Mn, hMn⟩ := lev_min HE.out HNC.out
      have HM := Lib.hid hMn
      clear HB HB1 HC hMn
      obtain ⟨wb, rfl⟩ : ∃ wb : World, wb = wr := ⟨_, rfl⟩
      have HV0 := Lib.hid (VRow.made (heap_alloc_new wb (zRow K)))
      have HGB := Lib.hid (below_alloc' (below_refl wb) (zRow K))
      obtain ⟨g, hg⟩ : ∃ g, g = wb.heap.size := ⟨_, rfl⟩
      have HGW := Lib.hid (show wb.heap.size ≤ g by omega)
      go_wp2_with fail
      clear hmk
      rw [← hg] at HV0 ⊢
      clear hg
      generalize wb.alloc (zRow K) = w3 at HV0 HGB ⊢
      go_loopw [11] (fun cnt wi => SrR2 wb K g Mn cnt wi) (fun cnt _ => K + 1 - (intOf cnt).toNat)
      case atStart => exact ⟨0, fun _ => 0, rfl, by omega, HV0.out, fun j hj => Int.le_refl _, fun j hj => HM.out.sol.low j hj, cntB_le _ _, HGB.out⟩
      case round =>
        clear HV0 HGB
        obtain ⟨r, F, rfl, hr, hv, hlo, hhi, hct, hb⟩ := hrel
        have HV := Lib.hid hv
        have HLO := Lib.hid hlo
        have HHI := Lib.hid hhi
        have HCT := Lib.hid hct
        have HB := Lib.hid hb
        clear hv hlo hhi hct hb
        by_cases hlt : r ≤ K
        · have b1 : decide ((r : Int) ≤ (K : Int)) = true := decide_eq_true (by omega)
          go_wp2_with fail
          go_loopw [12] (fun cnt wi => SrR3 wb K g es Mn F cnt wi) (fun cnt _ => es.length - (intOf cnt).toNat)
          case atStart => exact ⟨0, F, rfl, Nat.zero_le _, HV.out, ⟨HHI.out, fun _ _ => Int.le_refl _, fun e he => by cases he⟩, HB.out⟩
          case round =>
            clear HV HB
            obtain ⟨i, F1, rfl, hi, hv, hf, hb⟩ := hrel
            have HV := Lib.hid hv
            have HF := Lib.hid hf
            have HB := Lib.hid hb
            clear hv hf hb
            by_cases hlti : i < es.length
            · obtain ⟨y, hy⟩ : ∃ y, es[i]? = some y := ⟨_, List.getElem?_eq_getElem hlti⟩
              obtain ⟨ad, eA, -, q0, q1, q2⟩ := edg_at (HC2.out.mono HB.out) hy
              subst eA
              have hki : (i : Int) < es.length := by omega
              have hin := HE.out y (List.mem_of_getElem? hy)
              have f1' : (y.fr : Int) < K := by have := hin.1; omega
              have f2' : (y.to : Int) < K := by have := hin.2; omega
              have x0 := (HV.out y.fr hin.1).1
              have x1 := (HV.out y.fr hin.1).2
              have x2 := (HV.out y.to hin.2).1
              unfold iV at x0 x2
              have HFR := Lib.hid hin.1
              obtain ⟨vf, hvf⟩ : ∃ vf, vf = F1 y.fr := ⟨_, rfl⟩
              obtain ⟨vt, hvt⟩ : ∃ vt, vt = F1 y.to := ⟨_, rfl⟩
              have bt : 0 ≤ vt ∧ vt ≤ 64 := by
                have h1 := HF.out.hi y.to hin.2
                have h2 := HF.out.lo y.to hin.2
                have h3 := HLO.out y.to hin.2
                have h4 := HM.out.sol.high y.to hin.2
                omega
              rw [← hvf] at x0
              rw [← hvt] at x2
              obtain ⟨ng, hng⟩ : ∃ ng, ng = y.neg := ⟨_, rfl⟩
              rw [← hng] at q2
              have HPUT := Lib.hid (show LvFd K es Mn F (i + 1) (fun p => if p = y.fr then mxz vf (vt + negI ng) else F1 p) from HF.out.put HE.out HM.out hy (by rw [hvf, hvt, hng]))
              have HVS := Lib.hid (fun (wx : World) (v : Int) (hx : VRow wx g K (iV F1)) => (hx.set HFR.out (.int .i64 v)).congr (f' := iV (fun p => if p = y.fr then v else F1 p)) (fun p _ => by unfold iV; by_cases e : p = y.fr <;> simp [e]))
              clear hy hin hvf hvt hng
              cases ng with
              | false =>
                have hm : mxz vf (vt + negI false) = mxz vf vt := by rw [show negI false = 0 from rfl, Int.add_zero]
                rw [hm] at HPUT
                clear hm
                go_wp2_with fail
                go_region
                all_goals
                  go_wp2_with fail
                  go_roundw
                  case rel => exact ⟨i + 1, _, by go_num, by omega, HVS.out _ _ HV.out, HPUT.out, (below_setNew HB.out HGW.out _).drew⟩
                  case measure => simp [intOf]; omega
              | true =>
                have hm : mxz vf (vt + negI true) = mxz vf (vt + 1) := by rw [show negI true = 1 from rfl]
                rw [hm] at HPUT
                clear hm
                go_wp2_with fail
                go_region
                all_goals
                  go_wp2_with fail
                  go_roundw
                  case rel => exact ⟨i + 1, _, by go_num, by omega, HVS.out _ _ HV.out, HPUT.out, (below_setNew HB.out HGW.out _).drew⟩
                  case measure => simp [intOf]; omega
            · have hie : i = es.length := by omega
              subst hie
              have HN := Lib.hid (show (∀ j, j < K → 0 ≤ F1 j) ∧ cntB (offB F1 Mn) K ≤ K - (r + 1) from
                ⟨fun j hj => Int.le_trans (HLO.out j hj) (HF.out.lo j hj), lev_round HE.out HM.out HLO.out HF.out.hi HF.out.lo (fun e he => HF.out.done e (by rw [List.take_length]; exact he)) (by have := HCT.out; omega)⟩)
              go_wp2_with fail
              go_roundw
              case rel => exact ⟨r + 1, F1, by go_num, by omega, HV.out, HN.out.1, HF.out.hi, HN.out.2, HB.out⟩
              case measure => simp [intOf]; omega
        · have b1 : decide ((r : Int) ≤ (K : Int)) = false := decide_eq_false (by omega)
          have HZ := Lib.hid (show ∀ i, i < K → F i = Mn i from fun i hi => off_none (by have := HCT.out; omega) hi)
          have HLV := Lib.hid (lev_C HV.out)
          have hlen : (levOf K F).length = K := by simp [levOf]
          have HGD := Lib.hid (show GoodLev G (levOf K F) by
            have hk := HKE.out
            subst hk
            exact good_levOf hm HEs.out HNC.out HM.out HZ.out)
          have HLN := Lib.hid hlen
          clear hlen
          go_wp2_with fail
          go_ret3
          exact ⟨some ⟨g, 0, none⟩, K, levOf K F, HGD.out, by rw [HLN.out]; rfl, HLV.out, below_trans HB0.out (below_trans HB2.out HB.out)⟩
end Go.Proofs.YtbidpeggdhkahaaGreat
