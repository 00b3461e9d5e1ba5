/-
  W4: the walk of strata.Strata, given what deps.Edges answers.
-/
import Derived.Test.YtbidpeggdhkahaaW3
set_option linter.unusedSimpArgs false
set_option linter.unusedVariables false
namespace Go.Proofs.Ytbidpeggdhkahaa
open Go.RowKit

/-- What 'deps.Edges' leaves: all edges, in some row. -/
def EdgesPost (w : World) (G : Gram) (e : Ending) (w' : World) : Prop :=
  Below w.heap.size w w' ∧ ((mayB G = false ∧ e = .returned (.tuple #[.slice none 0 0, .int .i64 600])) ∨
    (mayB G = true ∧ ∃ (A : Option Addr) (c : Nat) (es : List Edg), e = .returned (.tuple #[.slice A es.length c, .int .i64 0]) ∧ edgRd.C w' A es ∧ es.length ≤ 1000000 ∧ ∀ x, x ∈ es ↔ x ∈ edgesOf G))
def StrRel1 (wd : World) (es : List Edg) (K g : Nat) (gh : Nat) (grew : Value) (wr : World) : Prop :=
  ∃ F : Nat → Int, wr.heap[g]? = some (intObj K F) ∧ Below g wd wr ∧ LevInv K es F ∧ ((grew = .bool true ∧ gh = roomF F K K + 1) ∨ (grew = .bool false ∧ gh = 0 ∧ ∀ e ∈ es, F e.to + negI e.neg ≤ F e.fr))
theorem set_alloc {wr : World} {g K i : Nat} {F : Nat → Int} {v : Int} {o : Obj} (h : wr.heap[g]? = some (intObj K F)) : ((wr.setCell ⟨g, i, none⟩ (.int .i64 v)).alloc o).heap[g]? = some (intObj K (updI F i v)) := by
  have h1 := blk_set h i (.int .i64 v)
  rw [intArr_set] at h1
  exact blk_below h1 (below_alloc' (below_refl _) _)
def StrCase (es : List Edg) (K : Nat) (F0 F : Nat → Int) (k : Nat) (grew : Value) : Prop :=
  (grew = .bool true ∧ roomF F K K < roomF F0 K K) ∨ (grew = .bool false ∧ F = F0 ∧ ∀ (i : Nat) (e : Edg), i < k → es[i]? = some e → F e.to + negI e.neg ≤ F e.fr)
theorem strCase_yes {es : List Edg} {K k i : Nat} {F0 F : Nat → Int} {grew : Value} (h : StrCase es K F0 F k grew) {v : Int} (h1 : F i < v) (h2 : v ≤ K) (h3 : i < K) : roomF (updI F i v) K K < roomF F0 K K := by
  have h4 := roomF_upd h1 h2 h3
  rcases h with ⟨-, h⟩ | ⟨-, rfl, -⟩
  · omega
  · exact h4
theorem strCase_no {es : List Edg} {K k : Nat} {F0 F : Nat → Int} {grew : Value} (h : StrCase es K F0 F k grew) {y : Edg} (hy : es[k]? = some y) (hn : F y.to + negI y.neg ≤ F y.fr) : StrCase es K F0 F (k + 1) grew := by
  rcases h with h | ⟨h1, h2, h3⟩
  · exact .inl h
  · refine .inr ⟨h1, h2, fun i e hi he => ?_⟩
    by_cases hik : i < k
    · exact h3 i e hik he
    · have : i = k := by omega
      subst this
      rw [hy] at he
      cases he
      exact hn
def StrRel2 (wd : World) (es : List Edg) (K g : Nat) (F0 : Nat → Int) (grew cnt : Value) (wr : World) : Prop :=
  ∃ (k : Nat) (F : Nat → Int), cnt = .int .i64 k ∧ k ≤ es.length ∧ wr.heap[g]? = some (intObj K F) ∧ Below g wd wr ∧ LevInv K es F ∧ StrCase es K F0 F k grew
theorem zRow_int (K : Nat) : zRow K = intObj K (fun _ => 0) := by
  unfold zRow intObj
  congr 1
  apply Array.toList_inj.1
  rw [toList_madeCells_one]
  apply List.ext_getElem
  · simp [intArr]
  · intro j h1 h2; simp [intArr]
theorem int_run (K : Nat) (hK : K ≤ 64) : ∀ w : World, (Instr.makeSlice 46 (.int .i64 (K : Int)) (.int .i64 (K : Int))).run Try.prog w = .ok (.slice (some ⟨w.heap.size, 0, none⟩) K K) (w.alloc (intObj K (fun _ => 0))) := by
  intro w
  rw [mk_run K (by omega) w, zRow_int]

set_option maxRecDepth 100000 in
set_option maxHeartbeats 2000000 in
theorem strata_any {w : World} (G : Gram) {A A' : Option Addr} {c c' : Nat} (n1 : G.names.length ≤ c) (n2 : c ≤ 9223372036854775807)
    (hEd : ∀ w', Below w.heap.size w w' → Calls Try.prog 33 #[.agg #[.int .i64 G.start, .slice A G.names.length c, .slice A' G.rules.length c']] w' (EdgesPost w' G)) :
    Calls Try.prog 23 #[.agg #[.int .i64 G.start, .slice A G.names.length c, .slice A' G.rules.length c']] w (StrataPost w (RefG G) (GoodLev G)) := by
  have hb0 : Below w.heap.size w (w.alloc (Obj.cells #[Value.int .i64 G.start, Value.slice A G.names.length c, Value.slice A' G.rules.length c'] 25)) := below_alloc' (below_refl w) _
  have B0 := heap_alloc_new w (Obj.cells #[Value.int .i64 G.start, Value.slice A G.names.length c, Value.slice A' G.rules.length c'] 25)
  have CE := Lib.hid (hEd _ hb0)
  clear hEd
  go_enter Try.func23, Try.ntmps23
  go_wp2_with fail
  refine CE.out.mono ?_
  clear CE
  generalize w.alloc (Obj.cells #[Value.int .i64 G.start, Value.slice A G.names.length c, Value.slice A' G.rules.length c'] 25) = w0 at hb0 B0 ⊢
  have HB := Lib.hid hb0
  have HB0 := Lib.hid B0
  have hl0 := blk_lt B0
  clear B0 hb0
  rintro e w1 ⟨hb1, ⟨hm, rfl⟩ | ⟨hm, Ae, ce, es, rfl, hC, hl, hes⟩⟩
  · have HB1 := Lib.hid (below_then HB.out hb1)
    clear hb1
    go_wp2_with fail
    go_ret3
    exact ⟨HB1.out, .inl ⟨.inl hm, _, _, rfl, by decide, by decide⟩⟩
  · have M := mayG hm
    have HB1 := Lib.hid (below_then HB.out hb1)
    have HX1 := Lib.hid (blk_below HB0.out hb1)
    have hE : EdgesIn G.names.length es := fun e he => edgesIn_of M e ((hes e).1 he)
    have y1 : w1.cell? ⟨w.heap.size, 1, none⟩ = some (.slice A G.names.length c) := blk_cell HX1.out 1
    have CC := Lib.hid (cycle_any (c := ce) M.K64 hE hC (by omega))
    have hl1 := blk_lt HX1.out
    clear hb1
    go_wp2_with fail
    refine CC.out.mono ?_
    rintro e w2 ⟨hb2, ⟨rfl, hN⟩ | ⟨hN, ga, na, ca, rfl⟩⟩
    · have HB2 := Lib.hid (below_then HB1.out hb2)
      have HX2 := Lib.hid (blk_below HX1.out hb2)
      have HC2 := Lib.hid (hC.mono hb2)
      have y2 : w2.cell? ⟨w.heap.size, 1, none⟩ = some (.slice A G.names.length c) := blk_cell HX2.out 1
      have hl2 := blk_lt HX2.out
      have hmk := int_run G.names.length M.K64
      have HES := Lib.hid hes
      clear hb2 HX1 HB1 y1 hl1 CC hC hes HB HB0 hl0
      go_wp2_with fail
      go_loopg [9] (roomF (fun _ => 0) G.names.length G.names.length + 1) (fun gk grew wr => StrRel1 w2 es G.names.length w2.heap.size gk grew wr)
      case atStart => exact ⟨fun _ => 0, heap_alloc_new w2 _, below_alloc' (below_refl _) _, LevInv.start hE, .inl ⟨rfl, rfl⟩⟩
      case round =>
        have hgw := HB2.out.size
        clear HX2 y2 hl2 hmk
        obtain ⟨F, hr, hb, hi, hcase⟩ := hrel
        have HR := Lib.hid hr
        have HB := Lib.hid hb
        have HI := Lib.hid hi
        clear hr hb hi
        rcases hcase with ⟨rfl, rfl⟩ | ⟨rfl, rfl, hed⟩
        · go_wp2_with fail
          go_loopw [9, 35] (fun grew cnt wr => StrRel2 w2 es G.names.length w2.heap.size F grew cnt wr) (fun _ cnt _ => es.length - (intOf cnt).toNat)
          case atStart => exact ⟨0, F, rfl, Nat.zero_le _, HR.out, HB.out, HI.out, .inr ⟨rfl, rfl, fun i e hi => by omega⟩⟩
          case round =>
            clear HR HB HI
            obtain ⟨k, F', rfl, hk, hr, hb, hi, hcs⟩ := hrel
            have HR := Lib.hid hr
            have HB := Lib.hid hb
            have HI := Lib.hid hi
            have HCS := Lib.hid hcs
            clear hr hb hi hcs
            by_cases hlt : k < es.length
            · obtain ⟨y, hy⟩ : ∃ y, es[k]? = some y := ⟨_, List.getElem?_eq_getElem hlt⟩
              obtain ⟨ad, eA, -, q0, q1, q2⟩ := edg_at (HC2.out.mono HB.out) hy
              subst eA
              have hki : (k : Int) < es.length := by omega
              have hmem := List.mem_of_getElem? hy
              have hin := hE y hmem
              have hst := HI.out.step hE hN hmem
              have HY := Lib.hid hy
              obtain ⟨yf, yt, yn⟩ := y
              simp only at q0 q1 q2 hin hst
              have i1 := hin.1
              have i2 := hin.2
              have hba := below_alloc' (below_refl wr) (Obj.cells #[Value.int .i64 yf, Value.int .i64 yt, Value.bool yn] 100)
              have B4 := Lib.hid (below_then HB.out hba)
              have R4 := blk_below HR.out hba
              have o0 := (blk_cell R4 yf).trans (intArr_at F' i1)
              have o1 := (blk_cell R4 yt).trans (intArr_at F' i2)
              have fo := blk_frozen R4 yf
              have hgr := blk_lt HR.out
              have l0 := HI.out.low yt i2
              have l1 := HI.out.lt i2
              have h64 := M.K64
              have HR4 := Lib.hid R4
              have HST := Lib.hid hst
              clear hba R4 hst hy
              have hwr : wrap64 (F' yt + 1) = F' yt + 1 := by unfold wrap64; omega
              cases yn with
              | false =>
                by_cases hlow : F' yf < F' yt
                · have d1 : decide (F' yf < F' yt) = true := by simp [hlow]
                  have HV := Lib.hid (show F' yt + negI false = F' yt by simp [negI])
                  go_wp2_with fail
                  go_roundw
                  case rel => exact ⟨k + 1, updI F' yf (F' yt), by go_num, hlt, set_alloc HR.out, below_alloc' (below_setNew HB.out (p := ⟨w2.heap.size, yf, none⟩) (Nat.le_refl _) _) _, by rw [← HV.out]; exact HST.out.1, .inl ⟨rfl, strCase_yes HCS.out hlow (by have := HST.out.2; rw [HV.out] at this; omega) i1⟩⟩
                  case measure => simp [intOf]; omega
                · have d1 : decide (F' yf < F' yt) = false := by simp [hlow]
                  have HV := Lib.hid (show F' yt + negI false = F' yt by simp [negI])
                  go_wp2_with fail
                  go_roundw
                  case rel => exact ⟨k + 1, F', by go_num, hlt, HR4.out, B4.out, HI.out, strCase_no HCS.out HY.out (by simp only [HV.out]; omega)⟩
                  case measure => simp [intOf]; omega
              | true =>
                by_cases hlow : F' yf < F' yt + 1
                · have d1 : decide (F' yf < F' yt + 1) = true := by simp [hlow]
                  have HV := Lib.hid (show F' yt + negI true = F' yt + 1 by simp [negI])
                  go_wp2_with fail
                  go_roundw
                  case rel => exact ⟨k + 1, updI F' yf (F' yt + 1), by go_num, hlt, set_alloc HR.out, below_alloc' (below_setNew HB.out (p := ⟨w2.heap.size, yf, none⟩) (Nat.le_refl _) _) _, by rw [← HV.out]; exact HST.out.1, .inl ⟨rfl, strCase_yes HCS.out hlow (by have := HST.out.2; rw [HV.out] at this; omega) i1⟩⟩
                  case measure => simp [intOf]; omega
                · have d1 : decide (F' yf < F' yt + 1) = false := by simp [hlow]
                  have HV := Lib.hid (show F' yt + negI true = F' yt + 1 by simp [negI])
                  go_wp2_with fail
                  go_roundw
                  case rel => exact ⟨k + 1, F', by go_num, hlt, HR4.out, B4.out, HI.out, strCase_no HCS.out HY.out (by simp only [HV.out]; omega)⟩
                  case measure => simp [intOf]; omega
            · have hke : k = es.length := by omega
              have HA := Lib.hid (show ∀ (i : Nat) (e : Edg), e ∈ es → es[i]? = some e → i < k from fun i e _ h => by rw [hke]; exact (List.getElem?_eq_some_iff.1 h).1)
              rcases HCS.out with ⟨rfl, hrm⟩ | ⟨rfl, rfl, hed⟩
              · clear HCS
                go_wp2_with fail
                go_roundg (roomF F' G.names.length G.names.length + 1)
                case rel => exact ⟨F', HR.out, HB.out, HI.out, .inl ⟨rfl, rfl⟩⟩
                case measure => omega
              · clear HCS
                have HED := Lib.hid hed
                clear hed
                go_wp2_with fail
                go_roundg 0
                case rel =>
                  refine ⟨F', HR.out, HB.out, HI.out, .inr ⟨rfl, rfl, fun e he => ?_⟩⟩
                  obtain ⟨i, hi⟩ := List.getElem?_of_mem he
                  exact HED.out i e (HA.out i e he hi) hi
                case measure => omega
        · have HED := Lib.hid hed
          clear hed
          go_wp2_with fail
          go_ret3
          refine ⟨below_then HB2.out HB.out, .inr ⟨some ⟨w2.heap.size, 0, none⟩, G.names.length, levOf G.names.length F, ?_, by simp [levOf], by simp [levOf], by have := M.K64; omega, ?_⟩⟩
          · refine ⟨hm, fun h => hN ((NegCyc.iff HES.out).2 h), by simp [levOf], fun i hi => ?_, fun e he => ?_⟩
            · rw [levOf_getD hi]
              exact ⟨HI.out.low i hi, HI.out.lt hi⟩
            · have he' := (HES.out e).2 he
              have hin := hE e he'
              rw [levOf_getD hin.1, levOf_getD hin.2]
              exact HED.out e he'
          · intro wz huz i x hx
            have hzz := HB2.out.size
            have hi : i < G.names.length := by have := (List.getElem?_eq_some_iff.1 hx).1; simpa [levOf] using this
            have hxi : x = F i := by simp [levOf, hi] at hx; exact hx.symm
            subst hxi
            refine ⟨_, [.int .i64 (F i)], rfl, rfl, fun j u hj => ?_⟩
            cases j with
            | zero =>
              simp at hj
              subst hj
              rw [add_plain]
              rw [show i * Rd.int.sz + 0 = i from Nat.mul_one i, Nat.zero_add]
              exact huz.cell ((blk_cell HR.out i).trans (intArr_at F hi)) (by simp only; omega)
            | succ j => simp at hj
    · have HB2 := Lib.hid (below_then HB1.out hb2)
      clear hb2 HX1 HB1 y1 hl1 CC hC HB HB0 hl0
      go_wp2_with fail
      go_ret3
      exact ⟨HB2.out, .inl ⟨.inr ((NegCyc.iff hes).1 hN), _, _, rfl, by decide, by decide⟩⟩
end Go.Proofs.Ytbidpeggdhkahaa
