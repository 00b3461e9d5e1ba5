/-
  W2: the walk of strata.cycle: it hands back nil just if no negated edge lies on a cycle.
-/
import Derived.Test.YtmccdakmdcdbeaaW1
set_option linter.unusedSimpArgs false
set_option linter.unusedVariables false
namespace Go.Proofs.Ytmccdakmdcdbeaa
open Go.RowKit

/-- A negated edge lies on a cycle. -/
def NegCyc (es : List Edg) : Prop := ∃ e ∈ es, e.neg = true ∧ Path es e.to e.fr
def CyclePost (w : World) (es : List Edg) (e : Ending) (w' : World) : Prop :=
  Below w.heap.size w w' ∧ ((e = .returned (.slice none 0 0) ∧ ¬ NegCyc es) ∨ (NegCyc es ∧ ∃ g n c, e = .returned (.slice (some g) n c)))
def CycleRel (w : World) (es : List Edg) (cnt : Value) (wr : World) : Prop :=
  ∃ k : Nat, cnt = .int .i64 k ∧ k ≤ es.length ∧ Below w.heap.size w wr ∧ ∀ (i : Nat) (e : Edg), i < k → es[i]? = some e → ¬ (e.neg = true ∧ Path es e.to e.fr)
theorem Own.new_int {w : World} {b base : Nat} {x : Int} (h : w.heap[b]? = some (.cells #[.int .i64 x] 3 (0, 0))) (hb : base ≤ b) : Own Rd.int 3 base w (.slice (some ⟨b, 0, none⟩) 1 1) [x] :=
  ⟨[[.int .i64 x]], rfl, ⟨rfl, .inr ⟨b, 1, #[.int .i64 x], rfl, hb, h, Nat.le_refl _, by decide, rfl, rfl⟩⟩, fun i y cs hy hc w' _ => by
    cases i with
    | zero => simp at hy hc; subst hy; subst hc; rfl
    | succ i => simp at hy⟩
theorem Own.some {α : Type} {d : Rd α} {e : TypeId} {base : Nat} {w : World} {v : Value} {x : α} {xs : List α} (h : Own d e base w v (x :: xs)) : ∃ g n c, v = .slice (some g) n c := by
  obtain ⟨css, h1, h2, h3⟩ := h
  rcases h2.2 with ⟨-, hn⟩ | ⟨g, cap, cur, hv, -⟩
  · simp at hn
  · exact ⟨_, _, _, hv⟩

set_option maxRecDepth 100000 in
set_option maxHeartbeats 2000000 in
theorem cycle_any {w : World} {K : Nat} {es : List Edg} {A : Option Addr} {c : Nat} (hK : K ≤ 64) (hE : EdgesIn K es) (hC : edgRd.C w A es) (hl : es.length ≤ 9223372036854775807) :
    Calls Try.prog 38 #[.int .i64 K, .slice A es.length c] w (CyclePost w es) := by
  go_enter Try.func38, Try.ntmps38
  go_wp2_with fail
  go_loopw [9] (fun cnt wr => CycleRel w es cnt wr) (fun cnt _ => es.length - (intOf cnt).toNat)
  case atStart => exact ⟨0, rfl, Nat.zero_le _, below_refl _, fun i e hi => by omega⟩
  case round =>
    obtain ⟨k, rfl, hk, hb, hno⟩ := hrel
    have HB := Lib.hid hb
    have HNO := Lib.hid hno
    clear hb hno
    by_cases hlt : k < es.length
    · obtain ⟨y, hy⟩ : ∃ y, es[k]? = some y := ⟨_, List.getElem?_eq_getElem hlt⟩
      obtain ⟨ad, eA, -, q0, q1, q2⟩ := edg_at (hC.mono HB.out) hy
      have HC := Lib.hid hC
      subst eA
      have hki : (k : Int) < es.length := by omega
      have hmem := List.mem_of_getElem? hy
      have hin := hE y hmem
      have HY := Lib.hid hy
      obtain ⟨yf, yt, yn⟩ := y
      simp only at q0 q1 q2 hin
      have hba := below_alloc' (below_refl wr) (Obj.cells #[Value.int .i64 yf, Value.int .i64 yt, Value.bool yn] 81)
      have B8 := heap_alloc_new wr (Obj.cells #[Value.int .i64 yf, Value.int .i64 yt, Value.bool yn] 81)
      have B4 := Lib.hid (below_then HB.out hba)
      have i1 := hin.1
      have i2 := hin.2
      clear hy
      cases yn with
      | false =>
        have HN := Lib.hid (show ∀ (i : Nat) (e : Edg), i < k + 1 → es[i]? = some e → ¬ (e.neg = true ∧ Path es e.to e.fr) from fun i e hi he => by
          by_cases hik : i < k
          · exact HNO.out i e hik he
          · have : i = k := by omega
            subst this
            rw [HY.out] at he
            cases he
            simp)
        clear hba B8
        go_wp2_with fail
        go_roundw
        case rel => exact ⟨k + 1, by go_num, hlt, B4.out, HN.out⟩
        case measure => simp [intOf]; omega
      | true =>
        have CR := Lib.hid (reaches_any (c := c) hK hE (HC.out.mono B4.out) hl i2 i1)
        cases hrb : reachB K es yt yf with
        | false =>
          rw [hrb] at CR
          have hnp : ¬ Path es yt yf := fun hp => by rw [(reachB_iff hE i2).2 hp] at hrb; cases hrb
          have HN := Lib.hid (show ∀ (i : Nat) (e : Edg), i < k + 1 → es[i]? = some e → ¬ (e.neg = true ∧ Path es e.to e.fr) from fun i e hi he => by
            by_cases hik : i < k
            · exact HNO.out i e hik he
            · have : i = k := by omega
              subst this
              rw [HY.out] at he
              cases he
              exact fun h => hnp h.2)
          clear hnp hrb hba B8
          go_wp2_with (go_at_call 48; refine CR.out.mono ?_; rintro e w5 ⟨rfl, hb5⟩; have B5 := Lib.hid (below_then B4.out hb5); clear hb5)
          go_roundw
          case rel => exact ⟨k + 1, by go_num, hlt, B5.out, HN.out⟩
          case measure => simp [intOf]; omega
        | true =>
          rw [hrb] at CR
          have HP := Lib.hid ((reachB_iff hE i2).1 hrb)
          have HB8 := Lib.hid B8
          clear hrb hba B8
          go_wp2_with (go_at_call 48; refine CR.out.mono ?_; rintro e w5 ⟨rfl, hb5⟩; have B5 := Lib.hid (below_then B4.out hb5); have b8 := blk_below HB8.out hb5; have t0 := blk_cell b8 0; have t1 := blk_cell b8 1; have hl5 := blk_lt b8; clear hb5 b8)
          have hbw5 := B5.out.size
          have t0 : w5.cell? ⟨wr.heap.size, 0, none⟩ = some (.int .i64 yf) := t0
          have t1 : w5.cell? ⟨wr.heap.size, 1, none⟩ = some (.int .i64 yt) := t1
          go_region_held3 (fun w' => w'.cell? ⟨wr.heap.size, 0, none⟩ = some (.int .i64 yf) ∧ w'.cell? ⟨wr.heap.size, 1, none⟩ = some (.int .i64 yt)) (((try simp only [World.cell?_drew]); first | with_reducible exact ⟨t0, t1⟩ | with_reducible exact ⟨t60, t61⟩ | with_reducible exact ⟨t70, t71⟩ | ((with_reducible refine ⟨below_cell (w := w6) ?_ t60, below_cell (w := w6) ?_ t61⟩) <;> (repeat (first | exact below_refl _ | apply below_alloc' | apply below_drew')); done) | ((with_reducible refine ⟨below_cell (w := w5) ?_ t0, below_cell (w := w5) ?_ t1⟩) <;> (repeat (first | exact below_refl _ | apply below_alloc' | apply below_drew')); done)))
          (first
            | (go_at_call 49; refine (way_any (c := c) hK hE (HC.out.mono (by repeat (first | exact B5.out | apply below_alloc' | apply below_drew'))) hl i2 i1 HP.out).mono ?_; rintro e w6 ⟨v6, xs, rfl, hO, hxl, hb6⟩; have B6 := Lib.hid (show Below w.heap.size w w6 from below_then (by repeat (first | exact B5.out | apply below_alloc' | apply below_drew')) hb6); have s6 := B6.out.size; have H56 := Lib.hid (show Below w5.heap.size w5 w6 from below_then (by repeat (first | exact below_refl _ | apply below_alloc' | apply below_drew')) hb6); have t60 := below_cell H56.out t0; have t61 := below_cell H56.out t1; have s65 : w5.heap.size ≤ w6.heap.size := (by have := hb6.size; simp at this; omega); obtain ⟨A6, k6, rfl, -, -, hC6⟩ := id hO.shape; have HC6 := Lib.hid hC6; (try (first | have z6 := Lib.hid (blk_below (heap_alloc_new w5 (Obj.cells #[.int .i64 (yf : Int)] 3)) hb6) | have z6 := Lib.hid (blk_below (w := (w5.alloc (Obj.cells #[.int .i64 (yf : Int)] 3)).drew) (heap_alloc_new w5 (Obj.cells #[.int .i64 (yf : Int)] 3)) hb6) | have z6 := Lib.hid (blk_below (w := w5.drew.alloc (Obj.cells #[.int .i64 (yf : Int)] 3)) (heap_alloc_new w5.drew (Obj.cells #[.int .i64 (yf : Int)] 3)) hb6) | have z6 := Lib.hid (blk_below (w := (w5.drew.alloc (Obj.cells #[.int .i64 (yf : Int)] 3)).drew) (heap_alloc_new w5.drew (Obj.cells #[.int .i64 (yf : Int)] 3)) hb6)); have s66 := blk_lt z6.out); clear hO hC6 hb6)
            | (refine step_append_flat (d := Rd.int) (base := w5.heap.size) (by rfl) _ _ 62 3 _ 8 (by rfl) Try.underlying62 infoInt (by rfl) (by decide) (v := .slice (some ⟨_, 0, none⟩) 1 1) (xs := [(yf : Int)]) (ys := xs) (by rfl) (Own.new_int (by first | exact heap_alloc_new w6 _ | exact heap_alloc_new w6.drew _ | exact z6.out) (by first | omega | (simp; omega))) flat_int (A := A6) (c := k6) (by rfl) (HC6.out.mono (by repeat (first | exact below_refl _ | apply below_alloc' | apply below_drew'))) (by simp; omega) (by decide) (by first | omega | (simp; omega)) ?_; intro v7 w7 o7 g7 t7; have t70 := below_cell (w := w5) (below_grown (by repeat (first | exact H56.out | apply below_alloc' | apply below_drew')) g7 (by intro b hb; simp [Value.ownBlock] at hb; omega)) t0; have t71 := below_cell (w := w5) (below_grown (by repeat (first | exact H56.out | apply below_alloc' | apply below_drew')) g7 (by intro b hb; simp [Value.ownBlock] at hb; omega)) t1; have B7 := Lib.hid (below_grown (by repeat (first | exact B6.out | apply below_alloc' | apply below_drew')) g7 (by intro b hb; simp [Value.ownBlock] at hb; omega)); obtain ⟨ga, na, ca, rfl⟩ := Own.some o7; clear o7 g7 t7)
            | fail)
          all_goals
            go_wp2_with fail
            go_ret
            exact ⟨B7.out, .inr ⟨⟨_, hmem, rfl, HP.out⟩, _, _, _, rfl⟩⟩
    · have hke : k = es.length := by omega
      go_wp2
      go_ret
      refine ⟨HB.out, .inl ⟨rfl, ?_⟩⟩
      rintro ⟨e, he, h1, h2⟩
      obtain ⟨i, hi⟩ := List.getElem?_of_mem he
      exact HNO.out i e (by rw [hke]; exact (List.getElem?_eq_some_iff.1 hi).1) hi ⟨h1, h2⟩
end Go.Proofs.Ytmccdakmdcdbeaa
