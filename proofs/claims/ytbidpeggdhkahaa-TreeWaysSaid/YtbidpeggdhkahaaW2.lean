/-
  W1: the walk of strata.way: it ends, and hands back a row of numbers.
  W2: the walk of strata.cycle: it hands back nil just if no negated edge lies on a cycle.
-/
import Derived.Test.YtbidpeggdhkahaaS3
set_option linter.unusedSimpArgs false
set_option linter.unusedVariables false
namespace Go.Proofs.Ytbidpeggdhkahaa
open Go.RowKit

theorem min2_mnz (k k' : IntKind) (x y : Int) : Builtin.min2 (.int k x) (.int k' y) = pure (.int k (mnz x y)) := by simp only [Builtin.min2, gt_iff_lt, mnz]
theorem min_mnz (ats : Array TypeId) (ty : TypeId) (a b : Value) : Builtin.min_ ats ty #[a, b] = (Builtin.min2 a b >>= fun s => pure s) := by simp only [Builtin.min_, List.foldlM_cons, List.foldlM_nil]
attribute [local go_sem] min2_mnz min_mnz

def WayPost (w : World) (K : Nat) (e : Ending) (w' : World) : Prop :=
  ∃ (v : Value) (xs : List Int), e = .returned v ∧ Own Rd.int 3 w.heap.size w' v xs ∧ xs.length ≤ K ∧ Below w.heap.size w w'
def Lead (es : List Edg) (F : Nat → Int) (a : Nat) (e : Edg) : Prop := e ∈ es ∧ e.fr = a ∧ 0 ≤ F e.to ∧ F e.to < F a
def WayRel1 (w : World) (K g : Nat) (F : Nat → Int) (out at_ : Value) (wr : World) : Prop :=
  ∃ (a : Nat) (xs : List Int), at_ = .int .i64 a ∧ a < K ∧ 0 ≤ F a ∧ (xs.length : Int) + F a < K ∧ Own Rd.int 3 (g + 1) wr out xs ∧ wr.heap[g]? = some (intObj K F) ∧ Below w.heap.size w wr
def WayRel2 (w : World) (es : List Edg) (K g : Nat) (F : Nat → Int) (out : Value) (xs : List Int) (a : Nat) (next cnt : Value) (wr : World) : Prop :=
  ∃ (k : Nat) (nx : Nat), cnt = .int .i64 k ∧ k ≤ es.length ∧ next = .int .i64 nx ∧ ((nx = K ∧ ∀ (i : Nat) (e : Edg), i < k → es[i]? = some e → ¬ Lead es F a e) ∨ (∃ e, Lead es F a e ∧ nx = e.to)) ∧
    Own Rd.int 3 (g + 1) wr out xs ∧ wr.heap[g]? = some (intObj K F) ∧ Below w.heap.size w wr
def atN (F : Nat → Int) (v : Value) : Nat := (F (intOf v).toNat).toNat
theorem Own.lower {α : Type} {d : Rd α} {e : TypeId} {base base' : Nat} {w : World} {v : Value} {xs : List α} (h : Own d e base w v xs) (hb : base' ≤ base) : Own d e base' w v xs := by
  obtain ⟨css, h1, h2, h3⟩ := h
  refine ⟨css, h1, ⟨h2.1, ?_⟩, fun i x cs hx hc w' hu => h3 i x cs hx hc w' (hu.mono ?_)⟩
  · rcases h2.2 with hn | ⟨g, cap, cur, hv, hbg, rest⟩
    · exact .inl hn
    · exact .inr ⟨g, cap, cur, hv, Nat.le_trans hb hbg, rest⟩
  · rintro k (hk | hk)
    · exact .inl (by omega)
    · exact .inr hk
theorem wayStep_no {es : List Edg} {K k nx a : Nat} {F : Nat → Int} {y : Edg} (hy : es[k]? = some y) (hn : ¬ Lead es F a y)
    (h : (nx = K ∧ ∀ (i : Nat) (e : Edg), i < k → es[i]? = some e → ¬ Lead es F a e) ∨ (∃ e, Lead es F a e ∧ nx = e.to)) :
    (nx = K ∧ ∀ (i : Nat) (e : Edg), i < k + 1 → es[i]? = some e → ¬ Lead es F a e) ∨ (∃ e, Lead es F a e ∧ nx = e.to) := by
  rcases h with ⟨h1, h2⟩ | h
  · refine .inl ⟨h1, fun i e hi he => ?_⟩
    by_cases hik : i < k
    · exact h2 i e hik he
    · have : i = k := by omega
      subst this
      rw [hy] at he
      cases he
      exact hn
  · exact .inr h
theorem wayStep_yes {es : List Edg} {K k nx a : Nat} {F : Nat → Int} {y : Edg} (hy : Lead es F a y) (hK : y.to < K)
    (h : (nx = K ∧ ∀ (i : Nat) (e : Edg), i < k → es[i]? = some e → ¬ Lead es F a e) ∨ (∃ e, Lead es F a e ∧ nx = e.to)) :
    ∃ nx' : Nat, mnz (nx : Int) (y.to : Int) = (nx' : Int) ∧ ((nx' = K ∧ ∀ (i : Nat) (e : Edg), i < k + 1 → es[i]? = some e → ¬ Lead es F a e) ∨ (∃ e, Lead es F a e ∧ nx' = e.to)) := by
  by_cases hlt : (y.to : Int) < nx
  · exact ⟨y.to, by unfold mnz; rw [if_pos hlt], .inr ⟨y, hy, rfl⟩⟩
  · rcases h with ⟨h1, h2⟩ | h
    · omega
    · exact ⟨nx, by unfold mnz; rw [if_neg hlt], .inr h⟩

set_option maxRecDepth 100000 in
set_option maxHeartbeats 2000000 in
theorem way_any {w : World} {K fr fin : Nat} {es : List Edg} {A : Option Addr} {c : Nat} (hK : K ≤ 64) (hE : EdgesIn K es) (hC : edgRd.C w A es) (hl : es.length ≤ 9223372036854775807) (hfr : fr < K) (hf : fin < K) (hP : Path es fr fin) :
    Calls Try.prog 47 #[.int .i64 K, .slice A es.length c, .int .i64 fr, .int .i64 fin] w (WayPost w K) := by
  have CS := Lib.hid (steps_any (c := c) hK hE hC hl hf)
  go_enter Try.func47, Try.ntmps47
  go_wp2_with (go_at_call 63; refine CS.out.mono ?_; rintro e w1 ⟨g, F, rfl, hg, hr, hb, hi, hsh⟩; have HR := Lib.hid hr; have HB := Lib.hid hb; have HI := Lib.hid hi; have HSH := Lib.hid hsh; have HG := Lib.hid hg; clear hr hb hi hsh hg)
  have hF0 := HSH.out.path hP (by rw [HI.out.fin0]; omega)
  have hF1 := HI.out.high fr hfr
  go_loopw [10, 11, 12] (fun out at_ _ wr => WayRel1 w K g F out at_ wr) (fun _ at_ _ _ => atN F at_)
  case atStart => exact ⟨fr, [], rfl, hfr, hF0, by simp; omega, Own.nil _ _ _ _, HR.out, HB.out⟩
  case round =>
    clear HR HB
    obtain ⟨a, xs, rfl, ha, ha0, hx, ho, hr, hb⟩ := hrel
    have HR := Lib.hid hr
    have HB := Lib.hid hb
    obtain ⟨Ao, co, rfl, -, -, -⟩ := id ho.shape
    have HO := Lib.hid ho
    have hgw := blk_lt HR.out
    clear hr hb ho
    by_cases hae : a = fin
    · have t0 : (((a : Nat) : Int) == (fin : Int)) = true := by simp [hae]
      go_wp2
      go_ret
      exact ⟨_, xs, rfl, HO.out.lower (by have := HG.out; omega), by omega, HB.out⟩
    · have t0 : (((a : Nat) : Int) == (fin : Int)) = false := by simp; omega
      go_wp2_with (at_builtin; refine wpList_append_one (d := Rd.int) rfl (base := g + 1) (.tmp 23) (.tmp 25) 46 3 _ 8 (by rfl) Try.underlying46 infoInt (by rfl) (by decide) (v := .slice Ao xs.length co) (xs := xs) (by rfl) (HO.out.below (below_alloc' (below_refl _) _)) (a : Int) #[.int .i64 a] (fun _ _ => rfl) (b := wr.heap.size) (c := 1) (by rfl) (heap_alloc_new wr _) (by omega) (by decide) (by simp; omega) ?_; intro v5 w5 o5 g5 t5; obtain ⟨A5, k5, rfl, -, -, -⟩ := id o5.shape; have O5 := Lib.hid o5; have G5 := Lib.hid g5; clear o5 g5 t5)
      have HR5 := Lib.hid (blk_grown (blk_below HR.out (below_alloc' (below_refl _) _)) G5.out (by intro e; have := (HO.out.base e.symm).1; omega))
      have HB5 := Lib.hid (below_grown (below_alloc' HB.out _) G5.out (by intro b hb; have := (HO.out.base hb).1; have := HG.out; omega))
      obtain ⟨ys, hys⟩ : ∃ ys, ys = xs ++ [(a : Int)] := ⟨_, rfl⟩
      have hyl : ys.length = xs.length + 1 := by rw [hys]; simp
      rw [← hys] at O5
      rw [← hyl]
      have HYL := Lib.hid hyl
      clear G5 HO HR HB hys hyl
      go_loopw [12, 30] (fun next cnt wr' => WayRel2 w es K g F (.slice A5 ys.length k5) ys a next cnt wr') (fun _ cnt _ => es.length - (intOf cnt).toNat)
      case atStart => exact ⟨0, K, rfl, Nat.zero_le _, rfl, .inl ⟨rfl, fun i e hi => by omega⟩, O5.out, HR5.out, HB5.out⟩
      case round =>
        clear O5 HR5 HB5
        obtain ⟨k, nx, rfl, hk, rfl, hnx, ho, hr, hb⟩ := hrel
        have HR := Lib.hid hr
        have HB := Lib.hid hb
        have HO := Lib.hid ho
        have HNX := Lib.hid hnx
        clear hr hb ho hnx
        by_cases hlt : k < es.length
        · obtain ⟨y, hy⟩ : ∃ y, es[k]? = some y := ⟨_, List.getElem?_eq_getElem hlt⟩
          obtain ⟨ad, eA, -, q0, q1, q2⟩ := edg_at (hC.mono HB.out) hy
          subst eA
          have hki : (k : Int) < es.length := by omega
          have hmem := List.mem_of_getElem? hy
          have hin := hE y hmem
          have hba := below_alloc' (below_refl wr) (Obj.cells #[Value.int .i64 y.fr, Value.int .i64 y.to, Value.bool y.neg] 100)
          have B8 := heap_alloc_new wr (Obj.cells #[Value.int .i64 y.fr, Value.int .i64 y.to, Value.bool y.neg] 100)
          have HY := Lib.hid hy
          clear hy
          go_wp2_with fail
          clear q0 q1 q2
          generalize wr.alloc (Obj.cells #[Value.int .i64 y.fr, Value.int .i64 y.to, Value.bool y.neg] 100) = w4 at hba B8 ⊢
          have R4 := Lib.hid (blk_below HR.out hba)
          have O4 := Lib.hid (HO.out.below hba)
          have B4 := Lib.hid (below_then HB.out hba)
          have s0 := blk_cell B8 0
          have s1 := blk_cell B8 1
          have o0 := (blk_cell R4.out y.to).trans (intArr_at F hin.2)
          have oa := (blk_cell R4.out a).trans (intArr_at F ha)
          have i2 := hin.2
          have hl4 := blk_lt B8
          clear hba B8
          by_cases hL : Lead es F a y
          · obtain ⟨nx', HE, HN'⟩ := wayStep_yes hL i2 HNX.out (k := k)
            have HN := Lib.hid HN'
            obtain ⟨-, h1, h2, h3⟩ := hL
            have t1 : (((y.fr : Nat) : Int) == (a : Int)) = true := by simp [h1]
            have t2 : decide (0 ≤ F y.to) = true := by simp [h2]
            have t3 : decide (F y.to < F a) = true := by simp [h3]
            clear HN' h1 h2 h3
            go_quiet (fail)
            go_wp2_with fail
            go_roundw
            case rel => exact ⟨k + 1, nx', by go_num, hlt, rfl, HN.out, O4.out.below (below_drewN' (below_refl _) _), R4.out, below_drewN' B4.out _⟩
            case measure => simp [intOf]; omega
          · have HN := Lib.hid (wayStep_no HY.out hL HNX.out)
            by_cases h1 : y.fr = a
            · have t1 : (((y.fr : Nat) : Int) == (a : Int)) = true := by simp [h1]
              by_cases h2 : 0 ≤ F y.to
              · have t2 : decide (0 ≤ F y.to) = true := by simp [h2]
                have t3 : decide (F y.to < F a) = false := by simp; exact Int.not_lt.1 (fun h3 => hL ⟨hmem, h1, h2, h3⟩)
                clear h1 h2 hL
                go_quiet (fail)
                go_wp2_with fail
                go_roundw
                case rel => exact ⟨k + 1, nx, by go_num, hlt, rfl, HN.out, O4.out.below (below_drewN' (below_refl _) _), R4.out, below_drewN' B4.out _⟩
                case measure => simp [intOf]; omega
              · have t2 : decide (0 ≤ F y.to) = false := by simp; omega
                clear h1 h2 hL
                go_quiet (fail)
                go_wp2_with fail
                go_roundw
                case rel => exact ⟨k + 1, nx, by go_num, hlt, rfl, HN.out, O4.out.below (below_drewN' (below_refl _) _), R4.out, below_drewN' B4.out _⟩
                case measure => simp [intOf]; omega
            · have t1 : (((y.fr : Nat) : Int) == (a : Int)) = false := by simp; omega
              clear h1 hL
              go_quiet (fail)
              go_wp2_with fail
              go_roundw
              case rel => exact ⟨k + 1, nx, by go_num, hlt, rfl, HN.out, O4.out.below (below_drewN' (below_refl _) _), R4.out, below_drewN' B4.out _⟩
              case measure => simp [intOf]; omega
        · have hke : k = es.length := by omega
          have hnl : ∃ e, Lead es F a e ∧ nx = e.to := by
            rcases HNX.out with ⟨-, h⟩ | h
            · exfalso
              rcases HI.out.back a ha ha0 with h1 | ⟨e, he, h1, h2, h3⟩
              · exact hae h1
              · obtain ⟨i, hi⟩ := List.getElem?_of_mem he
                exact h i e (by rw [hke]; exact (List.getElem?_eq_some_iff.1 hi).1) hi ⟨he, h1, h2, h3⟩
            · exact h
          obtain ⟨e, ⟨he, he1, he2, he3⟩, rfl⟩ := hnl
          have i2 := (hE e he).2
          go_wp2_with fail
          go_roundw
          case rel => exact ⟨e.to, ys, rfl, i2, he2, by rw [HYL.out]; omega, HO.out, HR.out, HB.out⟩
          case measure => simp only [atN, intOf, Int.toNat_natCast]; omega
end Go.Proofs.Ytbidpeggdhkahaa

set_option linter.unusedSimpArgs false
set_option linter.unusedVariables false
namespace Go.Proofs.Ytbidpeggdhkahaa
open Go.RowKit

/-- A negated edge lies on a cycle. -/
def NegCyc (es : List Edg) : Prop := ∃ e ∈ es, e.neg = true ∧ Path es e.to e.fr
def CyclePost (w : World) (es : List Edg) (e : Ending) (w' : World) : Prop :=
  Below w.heap.size w w' ∧ ((e = .returned (.slice none 0 0) ∧ ¬ NegCyc es) ∨ (NegCyc es ∧ ∃ g n c, e = .returned (.slice (some g) n c)))
def CycleRel (w : World) (es : List Edg) (cnt : Value) (wr : World) : Prop :=
  ∃ k : Nat, cnt = .int .i64 k ∧ k ≤ es.length ∧ Below w.heap.size w wr ∧ ∀ (i : Nat) (e : Edg), i < k → es[i]? = some e → ¬ (e.neg = true ∧ Path es e.to e.fr)
theorem Own.new_int {w : World} {b base : Nat} {x : Int} (h : w.heap[b]? = some (.cells #[.int .i64 x] 3 (0, 0))) (hb : base ≤ b) : Own Rd.int 3 base w (.slice (some ⟨b, 0, none⟩) 1 1) [x] :=
  ⟨[[.int .i64 x]], rfl, ⟨rfl, .inr ⟨b, 1, #[.int .i64 x], rfl, hb, h, Nat.le_refl _, by decide, rfl, rfl⟩⟩, fun i y cs hy hc w' _ => by
    cases i with
    | zero => simp at hy hc; subst hy; subst hc; rfl
    | succ i => simp at hy⟩
theorem Own.some {α : Type} {d : Rd α} {e : TypeId} {base : Nat} {w : World} {v : Value} {x : α} {xs : List α} (h : Own d e base w v (x :: xs)) : ∃ g n c, v = .slice (some g) n c := by
  obtain ⟨css, h1, h2, h3⟩ := h
  rcases h2.2 with ⟨-, hn⟩ | ⟨g, cap, cur, hv, -⟩
  · simp at hn
  · exact ⟨_, _, _, hv⟩

set_option maxRecDepth 100000 in
set_option maxHeartbeats 2000000 in
theorem cycle_any {w : World} {K : Nat} {es : List Edg} {A : Option Addr} {c : Nat} (hK : K ≤ 64) (hE : EdgesIn K es) (hC : edgRd.C w A es) (hl : es.length ≤ 9223372036854775807) :
    Calls Try.prog 34 #[.int .i64 K, .slice A es.length c] w (CyclePost w es) := by
  go_enter Try.func34, Try.ntmps34
  go_wp2_with fail
  go_loopw [9] (fun cnt wr => CycleRel w es cnt wr) (fun cnt _ => es.length - (intOf cnt).toNat)
  case atStart => exact ⟨0, rfl, Nat.zero_le _, below_refl _, fun i e hi => by omega⟩
  case round =>
    obtain ⟨k, rfl, hk, hb, hno⟩ := hrel
    have HB := Lib.hid hb
    have HNO := Lib.hid hno
    clear hb hno
    by_cases hlt : k < es.length
    · obtain ⟨y, hy⟩ : ∃ y, es[k]? = some y := ⟨_, List.getElem?_eq_getElem hlt⟩
      obtain ⟨ad, eA, -, q0, q1, q2⟩ := edg_at (hC.mono HB.out) hy
      have HC := Lib.hid hC
      subst eA
      have hki : (k : Int) < es.length := by omega
      have hmem := List.mem_of_getElem? hy
      have hin := hE y hmem
      have HY := Lib.hid hy
      obtain ⟨yf, yt, yn⟩ := y
      simp only at q0 q1 q2 hin
      have hba := below_alloc' (below_refl wr) (Obj.cells #[Value.int .i64 yf, Value.int .i64 yt, Value.bool yn] 100)
      have B8 := heap_alloc_new wr (Obj.cells #[Value.int .i64 yf, Value.int .i64 yt, Value.bool yn] 100)
      have B4 := Lib.hid (below_then HB.out hba)
      have i1 := hin.1
      have i2 := hin.2
      clear hy
      cases yn with
      | false =>
        have HN := Lib.hid (show ∀ (i : Nat) (e : Edg), i < k + 1 → es[i]? = some e → ¬ (e.neg = true ∧ Path es e.to e.fr) from fun i e hi he => by
          by_cases hik : i < k
          · exact HNO.out i e hik he
          · have : i = k := by omega
            subst this
            rw [HY.out] at he
            cases he
            simp)
        clear hba B8
        go_wp2_with fail
        go_roundw
        case rel => exact ⟨k + 1, by go_num, hlt, B4.out, HN.out⟩
        case measure => simp [intOf]; omega
      | true =>
        have CR := Lib.hid (reaches_any (c := c) hK hE (HC.out.mono B4.out) hl i2 i1)
        cases hrb : reachB K es yt yf with
        | false =>
          rw [hrb] at CR
          have hnp : ¬ Path es yt yf := fun hp => by rw [(reachB_iff hE i2).2 hp] at hrb; cases hrb
          have HN := Lib.hid (show ∀ (i : Nat) (e : Edg), i < k + 1 → es[i]? = some e → ¬ (e.neg = true ∧ Path es e.to e.fr) from fun i e hi he => by
            by_cases hik : i < k
            · exact HNO.out i e hik he
            · have : i = k := by omega
              subst this
              rw [HY.out] at he
              cases he
              exact fun h => hnp h.2)
          clear hnp hrb hba B8
          go_wp2_with (go_at_call 46; refine CR.out.mono ?_; rintro e w5 ⟨rfl, hb5⟩; have B5 := Lib.hid (below_then B4.out hb5); clear hb5)
          go_roundw
          case rel => exact ⟨k + 1, by go_num, hlt, B5.out, HN.out⟩
          case measure => simp [intOf]; omega
        | true =>
          rw [hrb] at CR
          have HP := Lib.hid ((reachB_iff hE i2).1 hrb)
          have HB8 := Lib.hid B8
          clear hrb hba B8
          go_wp2_with (go_at_call 46; refine CR.out.mono ?_; rintro e w5 ⟨rfl, hb5⟩; have B5 := Lib.hid (below_then B4.out hb5); have b8 := blk_below HB8.out hb5; have t0 := blk_cell b8 0; have t1 := blk_cell b8 1; have hl5 := blk_lt b8; clear hb5 b8)
          have hbw5 := B5.out.size
          have t0 : w5.cell? ⟨wr.heap.size, 0, none⟩ = some (.int .i64 yf) := t0
          have t1 : w5.cell? ⟨wr.heap.size, 1, none⟩ = some (.int .i64 yt) := t1
          go_region_held3 (fun w' => w'.cell? ⟨wr.heap.size, 0, none⟩ = some (.int .i64 yf) ∧ w'.cell? ⟨wr.heap.size, 1, none⟩ = some (.int .i64 yt)) (((try simp only [World.cell?_drew]); first | with_reducible exact ⟨t0, t1⟩ | with_reducible exact ⟨t60, t61⟩ | with_reducible exact ⟨t70, t71⟩ | ((with_reducible refine ⟨below_cell (w := w6) ?_ t60, below_cell (w := w6) ?_ t61⟩) <;> (repeat (first | exact below_refl _ | apply below_alloc' | apply below_drew')); done) | ((with_reducible refine ⟨below_cell (w := w5) ?_ t0, below_cell (w := w5) ?_ t1⟩) <;> (repeat (first | exact below_refl _ | apply below_alloc' | apply below_drew')); done)))
          (first
            | (go_at_call 47; refine (way_any (c := c) hK hE (HC.out.mono (by repeat (first | exact B5.out | apply below_alloc' | apply below_drew'))) hl i2 i1 HP.out).mono ?_; rintro e w6 ⟨v6, xs, rfl, hO, hxl, hb6⟩; have B6 := Lib.hid (show Below w.heap.size w w6 from below_then (by repeat (first | exact B5.out | apply below_alloc' | apply below_drew')) hb6); have s6 := B6.out.size; have H56 := Lib.hid (show Below w5.heap.size w5 w6 from below_then (by repeat (first | exact below_refl _ | apply below_alloc' | apply below_drew')) hb6); have t60 := below_cell H56.out t0; have t61 := below_cell H56.out t1; have s65 : w5.heap.size ≤ w6.heap.size := (by have := hb6.size; simp at this; omega); obtain ⟨A6, k6, rfl, -, -, hC6⟩ := id hO.shape; have HC6 := Lib.hid hC6; (try (first | have z6 := Lib.hid (blk_below (heap_alloc_new w5 (Obj.cells #[.int .i64 (yf : Int)] 3)) hb6) | have z6 := Lib.hid (blk_below (w := (w5.alloc (Obj.cells #[.int .i64 (yf : Int)] 3)).drew) (heap_alloc_new w5 (Obj.cells #[.int .i64 (yf : Int)] 3)) hb6) | have z6 := Lib.hid (blk_below (w := w5.drew.alloc (Obj.cells #[.int .i64 (yf : Int)] 3)) (heap_alloc_new w5.drew (Obj.cells #[.int .i64 (yf : Int)] 3)) hb6) | have z6 := Lib.hid (blk_below (w := (w5.drew.alloc (Obj.cells #[.int .i64 (yf : Int)] 3)).drew) (heap_alloc_new w5.drew (Obj.cells #[.int .i64 (yf : Int)] 3)) hb6)); have s66 := blk_lt z6.out); clear hO hC6 hb6)
            | (refine step_append_flat (d := Rd.int) (base := w5.heap.size) (by rfl) _ _ 46 3 _ 8 (by rfl) Try.underlying46 infoInt (by rfl) (by decide) (v := .slice (some ⟨_, 0, none⟩) 1 1) (xs := [(yf : Int)]) (ys := xs) (by rfl) (Own.new_int (by first | exact heap_alloc_new w6 _ | exact heap_alloc_new w6.drew _ | exact z6.out) (by first | omega | (simp; omega))) flat_int (A := A6) (c := k6) (by rfl) (HC6.out.mono (by repeat (first | exact below_refl _ | apply below_alloc' | apply below_drew'))) (by simp; omega) (by decide) (by first | omega | (simp; omega)) ?_; intro v7 w7 o7 g7 t7; have t70 := below_cell (w := w5) (below_grown (by repeat (first | exact H56.out | apply below_alloc' | apply below_drew')) g7 (by intro b hb; simp [Value.ownBlock] at hb; omega)) t0; have t71 := below_cell (w := w5) (below_grown (by repeat (first | exact H56.out | apply below_alloc' | apply below_drew')) g7 (by intro b hb; simp [Value.ownBlock] at hb; omega)) t1; have B7 := Lib.hid (below_grown (by repeat (first | exact B6.out | apply below_alloc' | apply below_drew')) g7 (by intro b hb; simp [Value.ownBlock] at hb; omega)); obtain ⟨ga, na, ca, rfl⟩ := Own.some o7; clear o7 g7 t7)
            | fail)
          all_goals
            go_wp2_with fail
            go_ret
            exact ⟨B7.out, .inr ⟨⟨_, hmem, rfl, HP.out⟩, _, _, _, rfl⟩⟩
    · have hke : k = es.length := by omega
      go_wp2
      go_ret
      refine ⟨HB.out, .inl ⟨rfl, ?_⟩⟩
      rintro ⟨e, he, h1, h2⟩
      obtain ⟨i, hi⟩ := List.getElem?_of_mem he
      exact HNO.out i e (by rw [hke]; exact (List.getElem?_eq_some_iff.1 hi).1) hi ⟨h1, h2⟩
end Go.Proofs.Ytbidpeggdhkahaa
