/-
  K4: templelaw11.part: has a rest its span by its parts? It answers as the table's row says.
-/
import Derived.Test.YtmccdakmdcdbeaaK3
set_option linter.unusedSimpArgs false
set_option linter.unusedVariables false
namespace Go.Proofs.Ytmccdakmdcdbeaa
open Go.RowKit

/-- The table's own view. -/
theorem Tab.view {w : World} {t : TS} {fin : Rk × Rk} (T : Tab w t fin) : View t.G.rules t.K (btz t.W) t.W.size fin.1 (fun r c pos => fin.2 (t.off r c + pos)) := by
  have h := T.sol.view T.H (rs := t.G.rules) (K := t.K) (δ := 0) (hi := t.W.size) (fun _ _ h => h) (Nat.le_refl _) (fun _ _ h _ => h) (Int.le_refl _) (by omega)
  simpa only [Int.add_zero] using h

section
variable {w : World} {t : TS} {fin : Rk × Rk} {r c q : Nat} {x : Rul} {y : Conj} {i j : Int}
theorem part_end (T : Tab w t fin) (p : Pl t r c q x y) (hq : q = y.seq.length) (i0 : 0 ≤ i) (ij : i ≤ j) (j1 : j ≤ t.W.size) : decide (0 < t.rrank fin.2 r c q i j) = (i == j) := by
  rw [rrank_in p i0 ij j1]
  have h := T.view.pEnd r x c y i j p.hx p.hy i0 ij j1
  rw [← hq] at h
  rw [h]
  by_cases e : i = j
  · rw [if_pos e]; simp [e]
  · rw [if_neg e]; simp [e]
theorem part_byte (T : Tab w t fin) (p : Pl t r c q x y) {s : Sym} (hs : y.seq[q]? = some s) (hn : s.name < 0) (i0 : 0 ≤ i) (ij : i ≤ j) (j1 : j ≤ t.W.size) :
    decide (0 < t.rrank fin.2 r c q i j) = (decide (i < j ∧ s.lo ≤ btz t.W i ∧ btz t.W i ≤ s.hi) && decide (0 < t.rrank fin.2 r c (q + 1 : Nat) (i + 1) j)) := by
  have hq : q < y.seq.length := (List.getElem?_eq_some_iff.1 hs).1
  rw [rrank_in p i0 ij j1]
  have h := T.view.pByte r x c y q s i j p.hx p.hy hs hn i0 ij j1
  have h0 := T.view.p0 r c (q + 1) (i + 1) j
  by_cases e : i < j
  · rw [rrank_in (pos := q + 1) ⟨p.hx, p.hy, by omega⟩ (by omega) (by omega) j1, h]
    by_cases e1 : s.lo ≤ btz t.W i ∧ btz t.W i ≤ s.hi
    · by_cases e2 : 0 < fin.2 (t.off r c + (q + 1)) (i + 1) j
      · rw [if_pos ⟨e, e1.1, e1.2, e2⟩]; simp [e, e1, e2]; omega
      · rw [if_neg (by rintro ⟨-, -, -, h⟩; exact e2 h)]; simp [e2]
    · rw [if_neg (by rintro ⟨-, h1, h2, -⟩; exact e1 ⟨h1, h2⟩)]; simp [e1]
  · rw [h, if_neg (by rintro ⟨h, -⟩; exact e h)]; simp [e]
theorem part_name (T : Tab w t fin) (p : Pl t r c q x y) {s : Sym} (hs : y.seq[q]? = some s) (hn : 0 ≤ s.name) (i0 : 0 ≤ i) (ij : i ≤ j) (j1 : j ≤ t.W.size) :
    0 < t.rrank fin.2 r c q i j ↔ ∃ d : Nat, i + d ≤ j ∧ 0 < t.rank fin.1 s.name i (i + d) ∧ 0 < t.rrank fin.2 r c (q + 1 : Nat) (i + d) j := by
  have hq : q < y.seq.length := (List.getElem?_eq_some_iff.1 hs).1
  have hk := T.H.F.sym r x c y q s p.hx p.hy hs
  have h := T.view.pName r x c y q s i j p.hx p.hy hs hn i0 ij j1
  have hr : ∀ d : Nat, i + d ≤ j → t.rank fin.1 s.name i (i + d) = fin.1 s.name.toNat i (i + d) := by
    intro d hd
    have := rank_in (t := t) (NM := fin.1) (k := s.name.toNat) (i := i) (j := i + d) (by omega) i0 (by omega) (by omega)
    rwa [Int.toNat_of_nonneg hn] at this
  have hp : ∀ d : Nat, i + d ≤ j → t.rrank fin.2 r c (q + 1 : Nat) (i + d) j = fin.2 (t.off r c + (q + 1)) (i + d) j := fun d hd => rrank_in (pos := q + 1) ⟨p.hx, p.hy, by omega⟩ (by omega) (by omega) j1
  rw [rrank_in p i0 ij j1]
  constructor
  · intro h1
    obtain ⟨d, hd, a, b, -⟩ := h.is h1
    exact ⟨d, by omega, by rw [hr d (by omega)]; exact a, by rw [hp d (by omega)]; exact b⟩
  · rintro ⟨d, hd, a, b⟩
    rw [hr d hd] at a
    rw [hp d hd] at b
    exact (h.le d (by omega) a b).1
end

def PartRel (w : World) (t : TS) (fin : Rk × Rk) (nm : Int) (r c q : Nat) (i j : Int) (cnt : Value) (wr : World) : Prop :=
  ∃ d : Nat, cnt = .int .i64 (i + d) ∧ i + d ≤ j + 1 ∧ (∀ d' : Nat, d' < d → ¬ (0 < t.rank fin.1 nm i (i + d') ∧ 0 < t.rrank fin.2 r c (q + 1 : Nat) (i + d') j)) ∧ Below w.heap.size w wr

set_option maxRecDepth 100000 in
set_option maxHeartbeats 4000000 in
theorem part_any {w : World} {t : TS} {fin : Rk × Rk} (T : Tab w t fin) {r c q : Nat} {x : Rul} {y : Conj} (p : Pl t r c q x y) {As : Option Addr} {cs : Nat} (hAs : symRd.C w As y.seq) {i j : Int} (i0 : 0 ≤ i) (ij : i ≤ j) (j1 : j ≤ t.W.size) :
    Calls Try.prog 30 #[.slice As y.seq.length cs, .string t.W, .pointer (some ⟨t.p, 0, none⟩), .agg #[.int .i64 r, .int .i64 c, .int .i64 q], .int .i64 i, .int .i64 j] w
      fun e w' => e = .returned (.bool (decide (0 < t.rrank fin.2 r c q i j))) ∧ Below w.heap.size w w' := by
  have hl := T.H.F.seq r x c y p.hx p.hy
  have hW := T.H.F.W32
  have hpq := p.hp
  have hb0 : Below w.heap.size w (w.alloc (Obj.cells #[Value.int .i64 r, Value.int .i64 c, Value.int .i64 q] 56)) := below_alloc' (below_refl w) _
  have B0 := heap_alloc_new w (Obj.cells #[Value.int .i64 r, Value.int .i64 c, Value.int .i64 q] 56)
  have c0 := blk_cell B0 0
  have c1 := blk_cell B0 1
  have c2 := blk_cell B0 2
  have TH := Lib.hid (T.below hb0)
  have T0 := Lib.hid T
  have hAs := Lib.hid (hAs.mono hb0)
  clear T
  have P := Lib.hid p
  clear p
  by_cases hq : q = y.seq.length
  · have HA := Lib.hid (part_end TH.out P.out hq i0 ij j1)
    have d0 : ((q : Int) == (y.seq.length : Int)) = true := by simp [hq]
    have HQ := Lib.hid hq
    clear hq
    go_enter Try.func30, Try.ntmps30
    go_wp2_with fail
    go_ret
    exact ⟨by rw [HA.out]; rfl, below_alloc' hb0 _⟩
  · have d0 : ((q : Int) == (y.seq.length : Int)) = false := by simp; omega
    obtain ⟨s, hs⟩ : ∃ s, y.seq[q]? = some s := ⟨_, List.getElem?_eq_getElem (by omega)⟩
    obtain ⟨ad, eA, -, s0, s1, s2⟩ := sym_at hAs.out hs
    subst eA
    have hqi : (q : Int) < y.seq.length := by omega
    have hb1 : Below w.heap.size w ((w.alloc (Obj.cells #[Value.int .i64 r, Value.int .i64 c, Value.int .i64 q] 56)).alloc (Obj.cells #[Value.int .i64 r, Value.int .i64 c, Value.int .i64 ((q : Int) + 1)] 56)) := below_alloc' hb0 _
    have B1 := heap_alloc_new (w.alloc (Obj.cells #[Value.int .i64 r, Value.int .i64 c, Value.int .i64 q] 56)) (Obj.cells #[Value.int .i64 r, Value.int .i64 c, Value.int .i64 ((q : Int) + 1)] 56)
    have s0 := below_cell (below_alloc' (below_refl _) (Obj.cells #[Value.int .i64 r, Value.int .i64 c, Value.int .i64 ((q : Int) + 1)] 56)) s0
    have s1 := below_cell (below_alloc' (below_refl _) (Obj.cells #[Value.int .i64 r, Value.int .i64 c, Value.int .i64 ((q : Int) + 1)] 56)) s1
    have s2 := below_cell (below_alloc' (below_refl _) (Obj.cells #[Value.int .i64 r, Value.int .i64 c, Value.int .i64 ((q : Int) + 1)] 56)) s2
    have z : (w.alloc (Obj.cells #[Value.int .i64 r, Value.int .i64 c, Value.int .i64 q] 56)).heap.size = w.heap.size + 1 := by simp
    rw [z] at B1
    have hb2 := below_alloc' hb1 (Obj.cells #[Value.int .i64 s.name, Value.int .i64 s.lo, Value.int .i64 s.hi] 44)
    have B2 := heap_alloc_new ((w.alloc (Obj.cells #[Value.int .i64 r, Value.int .i64 c, Value.int .i64 q] 56)).alloc (Obj.cells #[Value.int .i64 r, Value.int .i64 c, Value.int .i64 ((q : Int) + 1)] 56)) (Obj.cells #[Value.int .i64 s.name, Value.int .i64 s.lo, Value.int .i64 s.hi] 44)
    have z2 : ((w.alloc (Obj.cells #[Value.int .i64 r, Value.int .i64 c, Value.int .i64 q] 56)).alloc (Obj.cells #[Value.int .i64 r, Value.int .i64 c, Value.int .i64 ((q : Int) + 1)] 56)).heap.size = w.heap.size + 2 := by simp
    have B1' := blk_below B1 (below_alloc' (below_refl _) (Obj.cells #[Value.int .i64 s.name, Value.int .i64 s.lo, Value.int .i64 s.hi] 44))
    rw [z2] at B2
    have HB2 := Lib.hid B2
    have HB1 := Lib.hid B1'
    have HB := Lib.hid hb2
    clear B0 B1 B1' B2 z z2 hb0 hb1 hb2 c0 c1 c2
    by_cases hn : s.name < 0
    · have HA := Lib.hid (part_byte TH.out P.out hs hn i0 ij j1)
      clear hs hq
      go_enter Try.func30, Try.ntmps30
      go_wp2_with fail
      generalize (((w.alloc (Obj.cells #[Value.int .i64 r, Value.int .i64 c, Value.int .i64 q] 56)).alloc (Obj.cells #[Value.int .i64 r, Value.int .i64 c, Value.int .i64 ((q : Int) + 1)] 56)).alloc (Obj.cells #[Value.int .i64 s.name, Value.int .i64 s.lo, Value.int .i64 s.hi] 44)) = w3 at HB HB1 HB2 ⊢
      have T3 := Lib.hid (T0.out.below HB.out)
      have k0 : w3.cell? ⟨w.heap.size + 1, 0, none⟩ = some (.int .i64 r) := blk_cell HB1.out 0
      have k1 : w3.cell? ⟨w.heap.size + 1, 1, none⟩ = some (.int .i64 c) := blk_cell HB1.out 1
      have k2 : w3.cell? ⟨w.heap.size + 1, 2, none⟩ = some (.int .i64 ((q : Int) + 1)) := blk_cell HB1.out 2
      have k4 : w3.cell? ⟨w.heap.size + 2, 1, none⟩ = some (.int .i64 s.lo) := blk_cell HB2.out 1
      have k5 : w3.cell? ⟨w.heap.size + 2, 2, none⟩ = some (.int .i64 s.hi) := blk_cell HB2.out 2
      clear s0 s1 s2 TH hAs
      by_cases c1 : i < j
      · have hit : i.toNat < t.W.size := by omega
        have hitz : i < (t.W.size : Int) := by omega
        have bb := btz_range t.W i
        have b1 := bb.1
        have b2 := bb.2
        clear bb
        have hbt := btz_at t.W i
        generalize btz t.W i = B at hbt b1 b2 HA ⊢
        have e3 : IntKind.i64.wrap B = B := IntWalk.i64_in _ (by omega)
        have e4 : IntKind.i64.wrap (i + 1) = i + 1 := IntWalk.i64_in _ (by omega)
        by_cases c2 : s.lo ≤ B
        · by_cases c3 : B ≤ s.hi
          · have HF := Lib.hid (show decide (0 < t.rrank fin.2 r c q i j) = decide (0 < t.rrank fin.2 r c ((q : Int) + 1) (i + 1) j) by rw [HA.out, show ((q + 1 : Nat) : Int) = (q : Int) + 1 by omega]; simp [c1, c2, c3])
            clear HA
            have d1 : decide (i < j) = true := by simpa using c1
            have d2 : decide (s.lo ≤ B) = true := by simpa using c2
            have d3 : decide (B ≤ s.hi) = true := by simpa using c3
            go_region_held3 (fun w' => w'.cell? ⟨w.heap.size + 1, 0, none⟩ = some (.int .i64 r) ∧ w'.cell? ⟨w.heap.size + 1, 1, none⟩ = some (.int .i64 c) ∧ w'.cell? ⟨w.heap.size + 1, 2, none⟩ = some (.int .i64 ((q : Int) + 1)) ∧ w'.cell? ⟨w.heap.size + 2, 1, none⟩ = some (.int .i64 s.lo) ∧ w'.cell? ⟨w.heap.size + 2, 2, none⟩ = some (.int .i64 s.hi)) (first | exact ⟨m0, m1, m2, m4, m5⟩ | exact ⟨k0, k1, k2, k4, k5⟩)
                (first
                  | (go_at_call 24; refine (restHas_any (w := w3.drew) (T3.out.below (below_drew' (below_refl _))).st T3.out.H.F (T3.out.below (below_drew' (below_refl _))).rw _ _ _ _ _).mono ?_; rintro e w4 ⟨rfl, hb2⟩; have m0 := below_cell (w := w3.drew) hb2 k0; have m1 := below_cell (w := w3.drew) hb2 k1; have m2 := below_cell (w := w3.drew) hb2 k2; have m4 := below_cell (w := w3.drew) hb2 k4; have m5 := below_cell (w := w3.drew) hb2 k5; have HB4 := Lib.hid hb2; clear hb2)
                  | fail)
            go_wp2_with fail
            go_ret
            exact ⟨by rw [HF.out]; rfl, below_trans (below_drew' HB.out) HB4.out⟩
          · have HF := Lib.hid (show decide (0 < t.rrank fin.2 r c q i j) = false by rw [HA.out]; simp [c1, c2, c3])
            clear HA
            have d1 : decide (i < j) = true := by simpa using c1
            have d2 : decide (s.lo ≤ B) = true := by simpa using c2
            have d3 : decide (B ≤ s.hi) = false := by simpa using c3
            go_quiet (fail)
            go_wp2_with fail
            go_ret
            exact ⟨by rw [HF.out]; rfl, pw_below_drewN HB.out _⟩
        · have HF := Lib.hid (show decide (0 < t.rrank fin.2 r c q i j) = false by rw [HA.out]; simp [c1, c2])
          clear HA
          have d1 : decide (i < j) = true := by simpa using c1
          have d2 : decide (s.lo ≤ B) = false := by simpa using c2
          go_quiet (fail)
          go_wp2_with fail
          go_ret
          exact ⟨by rw [HF.out]; rfl, pw_below_drewN HB.out _⟩
      · have HF := Lib.hid (show decide (0 < t.rrank fin.2 r c q i j) = false by rw [HA.out]; simp [c1])
        clear HA
        have d1 : decide (i < j) = false := by simpa using c1
        go_quiet (fail)
        go_wp2_with fail
        go_ret
        exact ⟨by rw [HF.out]; rfl, pw_below_drewN HB.out _⟩
    · have HA := Lib.hid (part_name TH.out P.out hs (by omega) i0 ij j1)
      have d1 : decide (s.name < 0) = false := by simpa using hn
      clear hs hq
      go_enter Try.func30, Try.ntmps30
      go_wp2_with fail
      generalize (((w.alloc (Obj.cells #[Value.int .i64 r, Value.int .i64 c, Value.int .i64 q] 56)).alloc (Obj.cells #[Value.int .i64 r, Value.int .i64 c, Value.int .i64 ((q : Int) + 1)] 56)).alloc (Obj.cells #[Value.int .i64 s.name, Value.int .i64 s.lo, Value.int .i64 s.hi] 44)) = w3 at HB HB1 HB2 ⊢
      clear s0 s1 s2 TH hAs
      go_loopw [15] (fun cnt wr => PartRel w3 t fin s.name r c q i j cnt wr) (fun cnt _ => (j + 1 - intOf cnt).toNat)
      case atStart => exact ⟨0, by simp, by omega, fun d' h => by omega, below_refl _⟩
      case round =>
        obtain ⟨d, rfl, hd, hno, hb⟩ := hrel
        have T3 := Lib.hid (T0.out.below (below_trans HB.out hb))
        have k0 : wr.cell? ⟨w.heap.size + 1, 0, none⟩ = some (.int .i64 r) := blk_cell (blk_below HB1.out hb) 0
        have k1 : wr.cell? ⟨w.heap.size + 1, 1, none⟩ = some (.int .i64 c) := blk_cell (blk_below HB1.out hb) 1
        have k2 : wr.cell? ⟨w.heap.size + 1, 2, none⟩ = some (.int .i64 ((q : Int) + 1)) := blk_cell (blk_below HB1.out hb) 2
        have k3 : wr.cell? ⟨w.heap.size + 2, 0, none⟩ = some (.int .i64 s.name) := blk_cell (blk_below HB2.out hb) 0
        have HB4 := Lib.hid hb
        have HNO := Lib.hid hno
        clear hb hno
        by_cases hlt : i + d ≤ j
        · have e4 : IntKind.i64.wrap (i + d + 1) = i + d + 1 := IntWalk.i64_in _ (by omega)
          by_cases c1 : 0 < t.rank fin.1 s.name i (i + d)
          · have d2 : decide (0 < t.rank fin.1 s.name i (i + d)) = true := by simpa using c1
            by_cases c2 : 0 < t.rrank fin.2 r c ((q : Int) + 1) (i + d) j
            · have d3 : decide (0 < t.rrank fin.2 r c ((q : Int) + 1) (i + d) j) = true := by simpa using c2
              have HF := Lib.hid (show decide (0 < t.rrank fin.2 r c q i j) = true by rw [decide_eq_true_eq, HA.out]; exact ⟨d, hlt, c1, c2⟩)
              clear c1 c2
              go_wp2_with (first
                | (go_at_call 16; refine (has_any T3.out.st T3.out.H.F T3.out.rw _ _ _).mono ?_; rintro e w5 ⟨rfl, hb5⟩; have m0 := below_cell hb5 k0; have m1 := below_cell hb5 k1; have m2 := below_cell hb5 k2; have T5 := Lib.hid (T3.out.below hb5); have HB5 := Lib.hid hb5; clear hb5)
                | (go_at_call 24; refine (restHas_any T5.out.st T5.out.H.F T5.out.rw _ _ _ _ _).mono ?_; rintro e w6 ⟨rfl, hb6⟩; have HB6 := Lib.hid hb6; clear hb6)
                | fail)
              go_ret
              exact ⟨by rw [HF.out]; rfl, below_trans HB.out (below_trans (below_trans HB4.out HB5.out) HB6.out)⟩
            · have d3 : decide (0 < t.rrank fin.2 r c ((q : Int) + 1) (i + d) j) = false := by simpa using c2
              have HN := Lib.hid c2
              clear c1 c2
              go_wp2_with (first
                | (go_at_call 16; refine (has_any T3.out.st T3.out.H.F T3.out.rw _ _ _).mono ?_; rintro e w5 ⟨rfl, hb5⟩; have m0 := below_cell hb5 k0; have m1 := below_cell hb5 k1; have m2 := below_cell hb5 k2; have T5 := Lib.hid (T3.out.below hb5); have HB5 := Lib.hid hb5; clear hb5)
                | (go_at_call 24; refine (restHas_any T5.out.st T5.out.H.F T5.out.rw _ _ _ _ _).mono ?_; rintro e w6 ⟨rfl, hb6⟩; have HB6 := Lib.hid hb6; clear hb6)
                | fail)
              go_roundw
              case rel => exact ⟨d + 1, by go_num, by omega, fun d' h h' => (by rcases Nat.lt_succ_iff_lt_or_eq.1 h with h1 | h1; exact HNO.out d' h1 h'; subst h1; exact absurd h'.2 (Int.not_lt.2 HN.out)), below_trans (below_trans HB4.out HB5.out) HB6.out⟩
              case measure => simp [intOf]; omega
          · have d2 : decide (0 < t.rank fin.1 s.name i (i + d)) = false := by simpa using c1
            have HN := Lib.hid c1
            clear c1
            go_wp2_with (first
                | (go_at_call 16; refine (has_any T3.out.st T3.out.H.F T3.out.rw _ _ _).mono ?_; rintro e w5 ⟨rfl, hb5⟩; have HB5 := Lib.hid hb5; clear hb5)
                | fail)
            go_roundw
            case rel => exact ⟨d + 1, by go_num, by omega, fun d' h h' => (by rcases Nat.lt_succ_iff_lt_or_eq.1 h with h1 | h1; exact HNO.out d' h1 h'; subst h1; exact absurd h'.1 (Int.not_lt.2 HN.out)), below_trans HB4.out HB5.out⟩
            case measure => simp [intOf]; omega
        · have HF := Lib.hid (show decide (0 < t.rrank fin.2 r c q i j) = false by
            rw [decide_eq_false_iff_not, HA.out]
            rintro ⟨d', h1, h2⟩
            exact HNO.out d' (by omega) h2)
          go_wp2_with fail
          go_ret
          exact ⟨by rw [HF.out]; rfl, below_trans HB.out HB4.out⟩
end Go.Proofs.Ytmccdakmdcdbeaa
