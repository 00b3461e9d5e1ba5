/-
  K5: templelaw11.parts answers true; a name holds just if one of its rules does.
-/
import Derived.Test.YtmccdakmdcdbeaaK4
set_option linter.unusedSimpArgs false
set_option linter.unusedVariables false
namespace Go.Proofs.Ytmccdakmdcdbeaa
open Go.RowKit

def NumRel (w : World) (n : Nat) (cnt : Value) (wr : World) : Prop :=
  ∃ k : Nat, cnt = .int .i64 k ∧ k ≤ n ∧ Below w.heap.size w wr

set_option maxRecDepth 100000 in
set_option maxHeartbeats 4000000 in
theorem parts_any {w : World} {A A' : Option Addr} {c c' : Nat} {t : TS} {fin : Rk × Rk} (T : Tab w t fin) (n6 : rulRd.C w A' t.G.rules) {i j : Int} (i0 : 0 ≤ i) (ij : i ≤ j) (j1 : j ≤ t.W.size) :
    Calls Try.prog 18 #[.agg #[.int .i64 t.G.start, .slice A t.G.names.length c, .slice A' t.G.rules.length c'], .string t.W, .pointer (some ⟨t.p, 0, none⟩), .int .i64 i, .int .i64 j] w
      fun e w' => e = .returned (.bool true) ∧ Below w.heap.size w w' := by
  have hR := T.H.F.rules
  have hb0 : Below w.heap.size w (w.alloc (Obj.cells #[Value.int .i64 t.G.start, Value.slice A t.G.names.length c, Value.slice A' t.G.rules.length c'] 25)) := below_alloc' (below_refl w) _
  have B0 := heap_alloc_new w (Obj.cells #[Value.int .i64 t.G.start, Value.slice A t.G.names.length c, Value.slice A' t.G.rules.length c'] 25)
  have TH := Lib.hid (T.below hb0)
  have N6 := Lib.hid (n6.mono hb0)
  clear T n6
  go_enter Try.func18, Try.ntmps18
  go_wp2_with fail
  obtain ⟨bx, hbx⟩ : ∃ bx, bx = w.heap.size := ⟨_, rfl⟩
  rw [← hbx] at B0 ⊢
  generalize w.alloc (Obj.cells #[Value.int .i64 t.G.start, Value.slice A t.G.names.length c, Value.slice A' t.G.rules.length c'] 25) = w0 at hb0 B0 TH N6 ⊢
  have HB0 := Lib.hid hb0
  have HX := Lib.hid B0
  clear hb0 B0 hbx
  go_loopw [11] (fun cnt wr => NumRel w0 t.G.rules.length cnt wr) (fun cnt _ => t.G.rules.length - (intOf cnt).toNat)
  case atStart => exact ⟨0, rfl, Nat.zero_le _, below_refl _⟩
  case round =>
    obtain ⟨r, rfl, hr, hb⟩ := hrel
    have HB := Lib.hid hb
    have z2 : wr.cell? ⟨bx, 2, none⟩ = some (.slice A' t.G.rules.length c') := blk_cell (blk_below HX.out hb) 2
    clear hb
    by_cases hlt : r < t.G.rules.length
    · obtain ⟨x, hx⟩ : ∃ x, t.G.rules[r]? = some x := ⟨_, List.getElem?_eq_getElem hlt⟩
      obtain ⟨ad, Ac, cc, eA, -, -, q1, l3, l4, hCC⟩ := rul_at N6.out hx
      have HQ1 := Lib.hid q1
      have HCC := Lib.hid hCC
      have HRX := Lib.hid hx
      subst eA
      have hki : (r : Int) < t.G.rules.length := by omega
      have hc8 := (TH.out.H.F.conj r x hx).2
      clear hx hCC q1
      go_wp2_with fail
      go_loopw [12] (fun cnt wr' => NumRel w0 x.conj.length cnt wr') (fun cnt _ => x.conj.length - (intOf cnt).toNat)
      case atStart => exact ⟨0, rfl, Nat.zero_le _, HB.out⟩
      case round =>
        clear HB z2
        obtain ⟨m, rfl, hm, hb⟩ := hrel
        have HB := Lib.hid hb
        have z2 : wr.cell? ⟨bx, 2, none⟩ = some (.slice (some ad) t.G.rules.length c') := blk_cell (blk_below HX.out hb) 2
        have q1 := below_cell HB.out HQ1.out
        clear hb
        by_cases hltm : m < x.conj.length
        · obtain ⟨y, hy⟩ : ∃ y, x.conj[m]? = some y := ⟨_, List.getElem?_eq_getElem hltm⟩
          obtain ⟨ad2, As, cs, eA2, -, -, r1, m3, m4, hS⟩ := conj_at HCC.out hy
          subst eA2
          have r1 := below_cell HB.out r1
          have hkm : (m : Int) < x.conj.length := by omega
          have hs64 := TH.out.H.F.seq r x m y HRX.out hy
          have HS := Lib.hid hS
          have HY := Lib.hid hy
          clear hy hS
          go_wp2_with fail
          go_loopw [14] (fun cnt wr' => NumRel w0 (y.seq.length + 1) cnt wr') (fun cnt _ => y.seq.length + 1 - (intOf cnt).toNat)
          case atStart => exact ⟨0, rfl, Nat.zero_le _, HB.out⟩
          case round =>
            clear HB z2 q1 r1
            obtain ⟨q, rfl, hq, hb⟩ := hrel
            have HB := Lib.hid hb
            clear hb
            by_cases hltq : q ≤ y.seq.length
            · have T4 := Lib.hid (TH.out.below HB.out)
              have P := Lib.hid (show Pl t r m q x y from ⟨HRX.out, HY.out, hltq⟩)
              have S4 := Lib.hid (HS.out.mono HB.out)
              have d1 : (decide (0 < t.rrank fin.2 r m q i j) != decide (0 < t.rrank fin.2 r m q i j)) = false := by simp
              go_wp2_with (first
                | (go_at_call 24; refine (restHas_any T4.out.st T4.out.H.F T4.out.rw _ _ _ _ _).mono ?_; rintro e w5 ⟨rfl, hb5⟩; have T5 := Lib.hid (T4.out.below hb5); have S5 := Lib.hid (S4.out.mono hb5); have HB5 := Lib.hid hb5; clear hb5)
                | (go_at_call 30; refine (part_any T5.out P.out S5.out i0 ij j1).mono ?_; rintro e w6 ⟨rfl, hb6⟩; have HB6 := Lib.hid hb6; clear hb6)
                | fail)
              go_roundw
              case rel => exact ⟨q + 1, by go_num, by omega, below_trans (below_trans HB.out HB5.out) HB6.out⟩
              case measure => simp [intOf]; omega
            · have hqe : q = y.seq.length + 1 := by omega
              subst hqe
              go_wp2_with fail
              go_roundw
              case rel => exact ⟨m + 1, by go_num, by omega, HB.out⟩
              case measure => simp [intOf]; omega
        · have hme : m = x.conj.length := by omega
          subst hme
          go_wp2_with fail
          go_roundw
          case rel => exact ⟨r + 1, by go_num, by omega, HB.out⟩
          case measure => simp [intOf]; omega
    · have hre : r = t.G.rules.length := by omega
      subst hre
      go_wp2_with fail
      go_ret
      exact ⟨rfl, below_trans HB0.out HB.out⟩

/-! A name holds just if one of its rules does. -/
section
variable {w : World} {t : TS} {fin : Rk × Rk}
theorem fineTo_holds (T : Tab w t fin) {r : Nat} {x : Rul} (hx : t.G.rules[r]? = some x) {i j : Int} (i0 : 0 ≤ i) (ij : i ≤ j) (j1 : j ≤ t.W.size) : ∀ n, n ≤ x.conj.length → (fineTo t fin.2 r x.conj i j n = true ↔ HoldsTo (fun c => fin.2 (t.off r c + 0) i j) x.conj n) := by
  intro n
  induction n with
  | zero => intro _; exact ⟨fun _ c y hc => by omega, fun _ => rfl⟩
  | succ n ih =>
    intro hn
    obtain ⟨y, hy⟩ : ∃ y, x.conj[n]? = some y := ⟨_, List.getElem?_eq_getElem (by omega)⟩
    have h1 : t.rrank fin.2 r n 0 i j = fin.2 (t.off r n + 0) i j := rrank_in (pos := 0) ⟨hx, hy, Nat.zero_le _⟩ i0 ij j1
    have h2 := ih (by omega)
    have h3 : fineTo t fin.2 r x.conj i j (n + 1) = (fineTo t fin.2 r x.conj i j n && (decide (0 < t.rrank fin.2 r n 0 i j) != y.neg)) := by simp only [fineTo, hy]
    rw [h3, h1, Bool.and_eq_true, h2]
    have h4 : ∀ a b : Bool, (a != b) = true ↔ (a == b) = false := by decide
    rw [h4]
    constructor
    · rintro ⟨a, b⟩ c z hc hz
      rcases Nat.lt_succ_iff_lt_or_eq.1 hc with h | h
      · exact a c z h hz
      · subst h
        rw [hy] at hz
        cases hz
        exact b
    · intro a
      exact ⟨fun c z hc hz => a c z (by omega) hz, a n y (by omega) hy⟩
theorem ruledTo_iff {t : TS} {PL : Rk} {G : Gram} {k i j : Int} : ∀ n, ruledTo t PL G k i j n = true ↔ ∃ r, r < n ∧ ruleOk t PL G k i j r = true := by
  intro n
  induction n with
  | zero => exact ⟨fun h => absurd h Bool.false_ne_true, fun ⟨r, h, _⟩ => absurd h (Nat.not_lt_zero _)⟩
  | succ n ih =>
    unfold ruledTo
    rw [Bool.or_eq_true, ih]
    constructor
    · rintro (⟨r, h, e⟩ | h)
      · exact ⟨r, by omega, e⟩
      · exact ⟨n, by omega, h⟩
    · rintro ⟨r, h, e⟩
      rcases Nat.lt_succ_iff_lt_or_eq.1 h with h | h
      · exact .inl ⟨r, h, e⟩
      · subst h; exact .inr e
theorem ruled_is (T : Tab w t fin) {k : Nat} (hk : k < t.K) {i j : Int} (i0 : 0 ≤ i) (ij : i ≤ j) (j1 : j ≤ t.W.size) : ruledTo t fin.2 t.G k i j t.G.rules.length = decide (0 < t.rank fin.1 k i j) := by
  rw [rank_in hk i0 ij j1, Bool.eq_iff_iff, decide_eq_true_eq, ruledTo_iff]
  have V := T.view
  have ok : ∀ r x, t.G.rules[r]? = some x → (ruleOk t fin.2 t.G k i j r = true ↔ x.head = (k : Int) ∧ HoldsTo (fun c => fin.2 (t.off r c + 0) i j) x.conj x.conj.length) := by
    intro r x hx
    unfold ruleOk
    rw [hx]
    simp only [Bool.and_eq_true, decide_eq_true_eq]
    rw [fineTo_holds T hx i0 ij j1 x.conj.length (Nat.le_refl _)]
  constructor
  · rintro ⟨r, hr, h⟩
    obtain ⟨x, hx⟩ : ∃ x, t.G.rules[r]? = some x := ⟨_, List.getElem?_eq_getElem hr⟩
    obtain ⟨h1, h2⟩ := (ok r x hx).1 h
    have h3 : x.head.toNat = k := by omega
    have h4 := V.nLe r x i j hx (by omega) i0 ij j1 h2
    rw [h3] at h4
    exact h4.1
  · intro h
    obtain ⟨r, x, hx, h1, h2, -⟩ := V.nIs k i j hk i0 ij j1 h
    have h3 := (T.H.F.head r x hx).1
    exact ⟨r, (List.getElem?_eq_some_iff.1 hx).1, (ok r x hx).2 ⟨by omega, h2⟩⟩
end
end Go.Proofs.Ytmccdakmdcdbeaa
