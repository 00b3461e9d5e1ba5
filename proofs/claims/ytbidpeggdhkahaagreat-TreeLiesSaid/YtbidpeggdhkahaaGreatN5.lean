/-
  N4: the document's own table in memory; its span, Rank, Has, On, Byte.
  N5: the document's own table: Rank, Has, place, RestRank, Rest.
-/
import Derived.Test.YtbidpeggdhkahaaGreatN2
import Derived.Test.YtbidpeggdhkahaaGreatA3
import Derived.Test.YtbidpeggdhkahaaGreatU1
import Derived.BigRegion
set_option linter.unusedSimpArgs false
set_option linter.unusedVariables false
namespace Go.Proofs.YtbidpeggdhkahaaGreat
open Go.RowKit

/-- Where the parts of the document's table lie. -/
structure RT where
  p : Nat
  G : Gram
  W : ByteArray
  An : Option Addr
  xn : Nat
  Ar : Option Addr
  xr : Nat
  nb : Nat
  xN : Nat
  cb : Nat
  xC : Nat
  ar : Nat → Nat
  xA : Nat → Nat
  rb : Nat
  xR : Nat
def RT.S (t : RT) : Nat := (t.W.size + 1) * (t.W.size + 1)
/-- Where a number's span lies. -/
def RT.ix (t : RT) (q : Nat) (i j : Int) : Nat := q * t.S + (i * (t.W.size + 1) + j).toNat
structure RTAt (w : World) (t : RT) : Prop where
  c1 : w.cell? ⟨t.p, 1, none⟩ = some (.slice t.An t.G.names.length t.xn)
  c2 : w.cell? ⟨t.p, 2, none⟩ = some (.slice t.Ar t.G.rules.length t.xr)
  c3 : w.cell? ⟨t.p, 3, none⟩ = some (.string t.W)
  c4 : w.cell? ⟨t.p, 4, none⟩ = some (.int .i64 t.S)
  c5 : w.cell? ⟨t.p, 5, none⟩ = some (.slice (some ⟨t.nb, 0, none⟩) (t.G.names.length * t.S) t.xN)
  c6 : w.cell? ⟨t.p, 6, none⟩ = some (.slice (some ⟨t.cb, 0, none⟩) t.G.rules.length t.xC)
  c7 : w.cell? ⟨t.p, 7, none⟩ = some (.slice (some ⟨t.rb, 0, none⟩) (qG t.G * t.S) t.xR)
  rul : rulRd.C w t.Ar t.G.rules
  cj : ∀ (r : Nat) (x : Rul), t.G.rules[r]? = some x → w.cell? ⟨t.cb, r, none⟩ = some (.slice (some ⟨t.ar r, 0, none⟩) x.conj.length (t.xA r)) ∧ ∀ c, c < x.conj.length → w.cell? ⟨t.ar r, c, none⟩ = some (.int .i64 (offG t.G r c))
/-- It lies still whatever is written into its two rows of numbers. -/
def RStat (w : World) (t : RT) : Prop := ∀ w', Upd (fun b => b = t.nb ∨ b = t.rb) w w' → RTAt w' t
theorem RStat.now {w : World} {t : RT} (h : RStat w t) : RTAt w t := h w (Upd.refl _ _)
theorem RStat.upd {w w' : World} {t : RT} (h : RStat w t) (u : Upd (fun b => b = t.nb ∨ b = t.rb) w w') : RStat w' t := fun _ u' => h _ (u.trans u')
theorem RStat.below {w w' : World} {t : RT} (h : RStat w t) (u : Below w.heap.size w w') : RStat w' t := h.upd (Upd.of_below u)
/-- A row of numbers by names or places, and spans. -/
def FlatAt (w : World) (t : RT) (b N : Nat) (f : Rk) : Prop := ∀ (q : Nat) (i j : Int), q < N → 0 ≤ i → i ≤ t.W.size → 0 ≤ j → j ≤ t.W.size → w.cell? ⟨b, t.ix q i j, none⟩ = some (.int .i64 (f q i j)) ∧ w.frozen? ⟨b, t.ix q i j, none⟩ = false
theorem FlatAt.below {w w' : World} {t : RT} {b N : Nat} {f : Rk} (h : FlatAt w t b N f) (hb : Below w.heap.size w w') : FlatAt w' t b N f :=
  fun q i j a b c d e => let ⟨x, y⟩ := h q i j a b c d e; ⟨below_cell hb x, below_froz hb x y⟩
structure RT.Fits (t : RT) : Prop where
  may : MayG t.G
  W32 : t.W.size ≤ 32
theorem RT.S_bd {t : RT} (h : t.W.size ≤ 32) : 1 ≤ t.S ∧ t.S ≤ 1089 := by
  unfold RT.S
  exact sp_bd t.W.size _ rfl h
theorem ix_bd {t : RT} {i j : Int} (i0 : 0 ≤ i) (i1 : i ≤ t.W.size) (j0 : 0 ≤ j) (j1 : j ≤ t.W.size) : 0 ≤ i * ((t.W.size : Int) + 1) + j ∧ i * ((t.W.size : Int) + 1) + j < t.S := by
  have h4 : 0 ≤ i * ((t.W.size : Int) + 1) := Int.mul_nonneg i0 (by omega)
  have h5 : i * ((t.W.size : Int) + 1) ≤ t.W.size * ((t.W.size : Int) + 1) := Int.mul_le_mul_of_nonneg_right i1 (by omega)
  have h6 : (((t.W.size + 1) * (t.W.size + 1) : Nat) : Int) = t.W.size * ((t.W.size : Int) + 1) + (t.W.size + 1) := by
    push_cast; rw [Int.add_mul]; omega
  unfold RT.S
  omega
theorem ix_inj {t : RT} {q q' : Nat} {i j i' j' : Int} (i0 : 0 ≤ i) (i1 : i ≤ t.W.size) (j0 : 0 ≤ j) (j1 : j ≤ t.W.size) (i0' : 0 ≤ i') (i1' : i' ≤ t.W.size) (j0' : 0 ≤ j') (j1' : j' ≤ t.W.size) (h : t.ix q i j = t.ix q' i' j') : q = q' ∧ i = i' ∧ j = j' := by
  have b1 := ix_bd (t := t) i0 i1 j0 j1
  have b2 := ix_bd (t := t) i0' i1' j0' j1'
  unfold RT.ix at h
  have hq : q = q' := by
    rcases Nat.lt_trichotomy q q' with hlt | he | hlt
    · have : (q + 1) * t.S ≤ q' * t.S := Nat.mul_le_mul_right _ hlt
      rw [Nat.add_mul] at this
      omega
    · exact he
    · have : (q' + 1) * t.S ≤ q * t.S := Nat.mul_le_mul_right _ hlt
      rw [Nat.add_mul] at this
      omega
  subst hq
  have hk : i * ((t.W.size : Int) + 1) + j = i' * ((t.W.size : Int) + 1) + j' := by omega
  have hi : i = i' := by
    rcases Int.lt_trichotomy i i' with h | h | h
    · have h5 : (i + 1) * ((t.W.size : Int) + 1) ≤ i' * ((t.W.size : Int) + 1) := Int.mul_le_mul_of_nonneg_right (by omega) (by omega)
      rw [Int.add_mul] at h5
      omega
    · exact h
    · have h5 : (i' + 1) * ((t.W.size : Int) + 1) ≤ i * ((t.W.size : Int) + 1) := Int.mul_le_mul_of_nonneg_right (by omega) (by omega)
      rw [Int.add_mul] at h5
      omega
  subst hi
  exact ⟨rfl, rfl, by omega⟩
theorem ix_lt {t : RT} {q N : Nat} {i j : Int} (hq : q < N) (i0 : 0 ≤ i) (i1 : i ≤ t.W.size) (j0 : 0 ≤ j) (j1 : j ≤ t.W.size) : t.ix q i j < N * t.S := by
  have b1 := ix_bd (t := t) i0 i1 j0 j1
  have : (q + 1) * t.S ≤ N * t.S := Nat.mul_le_mul_right _ hq
  rw [Nat.add_mul] at this
  unfold RT.ix
  omega
/-- One number put. -/
theorem FlatAt.put {w : World} {t : RT} {b N : Nat} {f : Rk} (h : FlatAt w t b N f) {q : Nat} {i j : Int} (hq : q < N) (i0 : 0 ≤ i) (i1 : i ≤ t.W.size) (j0 : 0 ≤ j) (j1 : j ≤ t.W.size) (v : Int) : FlatAt (w.setCell ⟨b, t.ix q i j, none⟩ (.int .i64 v)) t b N (putR f q i j v) := by
  intro q' i' j' hq' i0' i1' j0' j1'
  obtain ⟨x, y⟩ := h q' i' j' hq' i0' i1' j0' j1'
  refine ⟨?_, by simpa using y⟩
  by_cases e : q' = q ∧ i' = i ∧ j' = j
  · obtain ⟨rfl, rfl, rfl⟩ := e
    rw [World.cell?_setCell_same _ _ _ x]
    simp [putR]
  · rw [World.cell?_setCell_other]
    · rw [x]; unfold putR; rw [if_neg e]
    · intro e'
      injection e' with _ e2
      have e3 := ix_inj i0 i1 j0 j1 i0' i1' j0' j1' e2
      exact e ⟨e3.1.symm, e3.2.1.symm, e3.2.2.symm⟩
theorem FlatAt.other {w : World} {t : RT} {b N : Nat} {f : Rk} (h : FlatAt w t b N f) {a : Addr} (ha : a.block ≠ b) (v : Value) : FlatAt (w.setCell a v) t b N f := by
  intro q i j hq i0 i1 j0 j1
  obtain ⟨x, y⟩ := h q i j hq i0 i1 j0 j1
  refine ⟨keep_set x ha, by simpa using y⟩
def spanG (t : RT) (i j : Int) : Bool := decide (0 ≤ i) && decide (i ≤ j) && decide (j ≤ t.W.size)
def spV (t : RT) (i j : Int) : Int := if spanG t i j then i * (t.W.size + 1) + j else -1
def RT.rank (t : RT) (n : Rk) (k i j : Int) : Int := if spanG t i j && (decide (0 ≤ k) && decide (k < t.G.names.length)) then n k.toNat i j else 0
theorem rmulb (i : Int) (n : Nat) (hi0 : 0 ≤ i) (hi : i ≤ 33) (hW : n ≤ 32) : 0 ≤ i * (n+1) ∧ i * (n + 1) ≤ 1089 := by
  constructor
  · exact Int.mul_nonneg hi0 (by omega)
  · have : i * (n + 1) ≤ 33 * 33 := Int.mul_le_mul hi (by omega) (by omega) (by omega)
    omega

set_option maxRecDepth 100000 in
set_option maxHeartbeats 2000000 in
theorem rspan_any {w : World} {t : RT} (A : RTAt w t) (hW : t.W.size ≤ 32) (i j : Int) :
    Calls Tryz.prog 45 #[.pointer (some ⟨t.p, 0, none⟩), .int .i64 i, .int .i64 j] w fun e w' => e = .returned (.int .i64 (spV t i j)) ∧ w' = w := by
  have c3 := A.c3
  clear A
  by_cases h1 : i < 0
  · have d1 : decide (i < 0) = true := by simpa using h1
    have HZ := Lib.hid (show spV t i j = -1 by unfold spV spanG; rw [decide_eq_false (p := 0 ≤ i) (by omega)]; rfl)
    clear h1
    go_enter Tryz.func45, Tryz.ntmps45
    go_wp2_with fail
    go_ret
    exact ⟨by rw [HZ.out]; rfl, rfl⟩
  · have d1 : decide (i < 0) = false := by simpa using h1
    by_cases h2 : j < i
    · have d2 : decide (j < i) = true := by simpa using h2
      have HZ := Lib.hid (show spV t i j = -1 by unfold spV spanG; rw [decide_eq_false (p := i ≤ j) (by omega)]; simp)
      clear h1 h2
      go_enter Tryz.func45, Tryz.ntmps45
      go_wp2_with fail
      go_ret
      exact ⟨by rw [HZ.out]; rfl, rfl⟩
    · have d2 : decide (j < i) = false := by simpa using h2
      by_cases h3 : (t.W.size : Int) < j
      · have d3 : decide ((t.W.size : Int) < j) = true := by simpa using h3
        have HZ := Lib.hid (show spV t i j = -1 by unfold spV spanG; rw [decide_eq_false (p := j ≤ t.W.size) (by omega)]; simp)
        clear h1 h2 h3
        go_enter Tryz.func45, Tryz.ntmps45
        go_wp2_with fail
        go_ret
        exact ⟨by rw [HZ.out]; rfl, rfl⟩
      · have d3 : decide ((t.W.size : Int) < j) = false := by simpa using h3
        have HZ := Lib.hid (show spV t i j = i * (t.W.size + 1) + j by unfold spV spanG; rw [decide_eq_true (p := 0 ≤ i) (by omega), decide_eq_true (p := i ≤ j) (by omega), decide_eq_true (p := j ≤ t.W.size) (by omega)]; rfl)
        have hm := rmulb i t.W.size (by omega) (by omega) hW
        obtain ⟨P, hP⟩ : ∃ P, P = i * ((t.W.size : Int) + 1) := ⟨_, rfl⟩
        rw [← hP] at hm HZ
        have e1 : wrap64 (i * ((t.W.size : Int) + 1)) = P := by rw [← hP]; unfold wrap64; omega
        have j0 : 0 ≤ j := by omega
        have j1 : j ≤ 32 := by omega
        have HP := Lib.hid hP
        clear h1 h2 h3 hP
        go_enter Tryz.func45, Tryz.ntmps45
        go_wp2_with fail
        go_ret
        exact ⟨by rw [HZ.out]; rfl, rfl⟩
set_option maxRecDepth 100000 in
set_option maxHeartbeats 2000000 in
theorem on_any (r c q : Int) (w : World) (hq : 0 ≤ q) (hq1 : q ≤ 1000) : Calls Tryz.prog 82 #[.agg #[.int .i64 r, .int .i64 c, .int .i64 q]] w fun e w' => e = .returned (.agg #[.int .i64 r, .int .i64 c, .int .i64 (q + 1)]) ∧ Below w.heap.size w w' := by
  go_enter Tryz.func82, Tryz.ntmps82
  go_wp2_with fail
  refine bodyPost_ret (v := .agg #[.int .i64 r, .int .i64 c, .int .i64 (q + 1)]) (by simp [results, Tryz.results82, go_sem]) rfl ?_
  exact ⟨rfl, by repeat (first | exact below_refl _ | apply below_alloc' | apply below_drewN' | apply below_drew')⟩
end Go.Proofs.YtbidpeggdhkahaaGreat

set_option linter.unusedSimpArgs false
set_option linter.unusedVariables false
namespace Go.Proofs.YtbidpeggdhkahaaGreat
open Go.RowKit

set_option maxRecDepth 100000 in
set_option maxHeartbeats 4000000 in
theorem rrank_any {w : World} {t : RT} (A : RTAt w t) (F : t.Fits) {n : Rk} (R : FlatAt w t t.nb t.G.names.length n) (k i j : Int) :
    Calls Tryz.prog 30 #[.pointer (some ⟨t.p, 0, none⟩), .int .i64 k, .int .i64 i, .int .i64 j] w fun e w' => e = .returned (.int .i64 (t.rank n k i j)) ∧ Below w.heap.size w w' := by
  have hW := F.W32
  have hK := F.may.K64
  have HSP := Lib.hid (rspan_any A hW i j)
  have c1 := A.c1
  cases hs : spanG t i j with
  | false =>
    have HV := Lib.hid (show spV t i j = -1 by unfold spV; rw [hs]; rfl)
    have HZ := Lib.hid (show t.rank n k i j = 0 by unfold RT.rank; rw [hs]; rfl)
    rw [HV.out] at HSP
    clear hs
    go_enter Tryz.func30, Tryz.ntmps30
    go_wp2_with (first | (go_at_call 45; refine HSP.out.mono ?_; rintro e w1 ⟨rfl, rfl⟩) | fail)
    go_ret
    exact ⟨by rw [HZ.out]; rfl, below_refl _⟩
  | true =>
    have hsb := hs
    unfold spanG at hsb
    simp only [Bool.and_eq_true, decide_eq_true_eq] at hsb
    obtain ⟨⟨i0, ij⟩, j1⟩ := hsb
    have hb := ix_bd (t := t) i0 (by omega) (by omega : 0 ≤ j) j1
    have hSb := RT.S_bd hW
    obtain ⟨s, hsv⟩ : ∃ s, s = i * ((t.W.size : Int) + 1) + j := ⟨_, rfl⟩
    have HV := Lib.hid (show spV t i j = s by unfold spV; rw [hs, hsv]; rfl)
    rw [← hsv] at hb
    rw [HV.out] at HSP
    have ds : decide (s < 0) = false := decide_eq_false (by omega)
    by_cases k0 : k < 0
    · have d1 : decide (k < 0) = true := by simpa using k0
      have HZ := Lib.hid (show t.rank n k i j = 0 by unfold RT.rank; rw [decide_eq_false (p := 0 ≤ k) (by omega)]; simp)
      clear hs hsv k0
      go_enter Tryz.func30, Tryz.ntmps30
      go_wp2_with (first | (go_at_call 45; refine HSP.out.mono ?_; rintro e w1 ⟨rfl, rfl⟩) | fail)
      go_ret
      exact ⟨by rw [HZ.out]; rfl, below_refl _⟩
    · have d1 : decide (k < 0) = false := by simpa using k0
      by_cases k1 : (t.G.names.length : Int) ≤ k
      · have d2 : decide ((t.G.names.length : Int) ≤ k) = true := by simpa using k1
        have HZ := Lib.hid (show t.rank n k i j = 0 by unfold RT.rank; rw [decide_eq_false (p := k < _) (by omega)]; simp)
        clear hs hsv k0 k1
        go_enter Tryz.func30, Tryz.ntmps30
        go_wp2_with (first | (go_at_call 45; refine HSP.out.mono ?_; rintro e w1 ⟨rfl, rfl⟩) | fail)
        go_ret
        exact ⟨by rw [HZ.out]; rfl, below_refl _⟩
      · have d2 : decide ((t.G.names.length : Int) ≤ k) = false := by simpa using k1
        obtain ⟨kn, rfl⟩ : ∃ kn : Nat, k = (kn : Int) := ⟨k.toNat, by omega⟩
        have HZ := Lib.hid (show t.rank n kn i j = n kn i j by unfold RT.rank; rw [hs, decide_eq_true (p := (kn : Int) < _) (by omega)]; simp)
        obtain ⟨hc, -⟩ := R kn i j (by omega) i0 (by omega) (by omega) j1
        have hlt := ix_lt (t := t) (q := kn) (N := t.G.names.length) (by omega) i0 (by omega) (by omega : 0 ≤ j) j1
        have hix : t.ix kn i j = kn * t.S + s.toNat := by unfold RT.ix; rw [hsv]
        rw [hix] at hc hlt
        have hPb : kn * t.S ≤ 64 * 1089 := Nat.mul_le_mul (by omega) hSb.2
        have c4 := A.c4
        have c5 := A.c5
        obtain ⟨S, hS⟩ : ∃ S, S = t.S := ⟨_, rfl⟩
        obtain ⟨L, hL⟩ : ∃ L, L = t.G.names.length * S := ⟨_, rfl⟩
        rw [← hS] at c4 c5 hc hlt hPb
        rw [← hL] at c5 hlt
        obtain ⟨P, hP⟩ : ∃ P : Nat, P = kn * S := ⟨_, rfl⟩
        rw [← hP] at hc hlt hPb
        have e0 : (kn : Int) * (S : Int) = (P : Int) := by rw [hP]; push_cast; rfl
        have e1 : IntKind.i64.wrap ((kn : Int) * (S : Int)) = (P : Int) := by rw [e0]; exact IntWalk.i64_in _ (by omega)
        have e2 : IntKind.i64.wrap ((P : Int) + s) = (P : Int) + s := IntWalk.i64_in _ (by omega)
        have e3 : ((P : Int) + s).toNat = P + s.toNat := by omega
        have b1 : (P : Int) + s < L := by omega
        have b0 : 0 ≤ (P : Int) + s := by omega
        rw [← e3] at hc
        have C4 := Lib.hid c4
        have C5 := Lib.hid c5
        have HC := Lib.hid hc
        have d2' : decide (t.G.names.length ≤ kn) = false := decide_eq_false (by omega)
        clear hs hsv k0 k1 A R hS hL hP hix e0 e3 c4 c5 hc hlt
        go_enter Tryz.func30, Tryz.ntmps30
        go_wp2_with (first | (go_at_call 45; refine HSP.out.mono ?_; rintro e w1 ⟨rfl, rfl⟩) | fail)
        refine wp_region_below (by kernel_rfl) (by kernel_rfl) ?_
        repeat (first
          | (refine qv_skip (by rfl) ?_; simp only [Act.put, List.setIfInBounds_toArray, List.set_cons_zero, List.set_cons_succ])
          | (refine qv_val' (by rfl) ?_; apply Exists.intro; refine ⟨fun w5 hC => ?_, ?_⟩; (have qqr0 := below_cell hC C4.out; have qqr1 := below_cell hC C5.out; have qqr2 := below_cell hC HC.out; go_simp; rfl); simp only [Act.put, List.setIfInBounds_toArray, List.set_cons_zero, List.set_cons_succ]))
        refine qv_nil ?_
        intro w5 hC
        have HB5 := Lib.hid hC
        clear hC e1 e2
        go_wp2_with fail
        go_ret
        exact ⟨by rw [HZ.out]; rfl, HB5.out⟩
theorem rhas_any {w : World} {t : RT} (A : RTAt w t) (F : t.Fits) {n : Rk} (R : FlatAt w t t.nb t.G.names.length n) (k i j : Int) :
    Calls Tryz.prog 15 #[.pointer (some ⟨t.p, 0, none⟩), .int .i64 k, .int .i64 i, .int .i64 j] w fun e w' => e = .returned (.bool (decide (0 < t.rank n k i j))) ∧ Below w.heap.size w w' := by
  have HC := Lib.hid (rrank_any A F R k i j)
  clear A R
  go_enter Tryz.func15, Tryz.ntmps15
  go_wp2_with (first | (go_at_call 30; refine HC.out.mono ?_; rintro e w1 ⟨rfl, hb1⟩; have HB1 := Lib.hid hb1; clear hb1) | fail)
  go_ret
  exact ⟨rfl, HB1.out⟩
def plcV (t : RT) (r c q : Int) : Int := if placeB t.G.rules r c q then (offG t.G r.toNat c.toNat : Int) + q else -1
def RT.rrank (t : RT) (p : Rk) (r c q i j : Int) : Int := if placeB t.G.rules r c q && spanG t i j then p (offG t.G r.toNat c.toNat + q.toNat) i j else 0
end Go.Proofs.YtbidpeggdhkahaaGreat
