/-
  Mb: mean.Table's Rank, RestRank, Has, Rest; seqs.Is.
-/
import Derived.Test.YtmccdakmdcdbeaaMn
set_option linter.unusedSimpArgs false
set_option linter.unusedVariables false
namespace Go.Proofs.Ytmccdakmdcdbeaa
open Go.RowKit
attribute [local go_sem] max2_mxz max_mxz

/-- Is it a place? -/
def placeB (rules : List Rul) (r c p : Int) : Bool :=
  decide (0 ≤ r) && (match rules[r.toNat]? with
    | none => false
    | some x => decide (0 ≤ c) && (match x.conj[c.toNat]? with
      | none => false
      | some y => decide (0 ≤ p) && decide (p ≤ y.seq.length)))
def spanB (t : TS) (i j : Int) : Bool := decide (0 ≤ i) && decide (i ≤ j) && decide (j ≤ t.W.size)
def nameK (t : TS) (k : Int) : Bool := decide (0 ≤ k) && decide (k < t.K)
def TS.rank (t : TS) (NM : Rk) (k i j : Int) : Int := if nameK t k && spanB t i j then NM k.toNat i j else 0
def TS.rrank (t : TS) (PL : Rk) (r c p i j : Int) : Int := if placeB t.G.rules r c p && spanB t i j then PL (t.off r.toNat c.toNat + p.toNat) i j else 0

set_option maxHeartbeats 1000000 in
theorem rank_any {w : World} {t : TS} {NM PL : Rk} (St : Stat w t) (F : t.Fits) (Rw : Rows w t NM PL) (k i j : Int) :
    Calls Try.prog 19 #[.pointer (some ⟨t.p, 0, none⟩), .int .i64 k, .int .i64 i, .int .i64 j] w
      fun e w' => e = .returned (.int .i64 (t.rank NM k i j)) ∧ Below w.heap.size w w' := by
  have hW := F.W32
  have hK := F.K64
  have S := St.now
  have f1 := S.cN
  have f2 := S.cW
  by_cases h1 : 0 ≤ k
  · have d1 : decide (k < 0) = false := by simp; omega
    by_cases h2 : k < t.K
    · have d2 : decide ((t.K : Int) ≤ k) = false := by simp; omega
      cases hs : spanB t i j with
      | false =>
        have hz : t.rank NM k i j = 0 := by simp [TS.rank, hs]
        have hs' : (decide (0 ≤ i) && decide (i ≤ j) && decide (j ≤ t.W.size)) = false := hs
        have HZ := Lib.hid hz
        clear hz
        go_enter Try.func19, Try.ntmps19
        go_wp2_with (go_at_call 31; refine (is_any t.p t.W i j _ (by assumption)).mono ?_; rintro e w' ⟨rfl, rfl⟩; rw [hs'])
        go_ret
        exact ⟨by rw [HZ.out]; rfl, Below.refl _ _⟩
      | true =>
        have hz : t.rank NM k i j = NM k.toNat i j := by simp [TS.rank, hs, nameK, h1, h2]
        have hs' : (decide (0 ≤ i) && decide (i ≤ j) && decide (j ≤ t.W.size)) = true := hs
        have hb := hs'
        simp only [Bool.and_eq_true, decide_eq_true_eq] at hb
        have hi0 := hb.1.1
        have hij := hb.1.2
        have hj := hb.2
        clear hb
        have HZ := Lib.hid hz
        have f3 := S.rN k.toNat (by omega)
        have f4 := (Rw.n k.toNat i j (by omega) (by omega) (by omega) (by omega) (by omega)).1
        have kb := key_bd t hi0 (by omega) (by omega) hj
        unfold TS.key at kb f4
        have kb1 := kb.1
        have kb2 := kb.2
        clear kb hz
        obtain ⟨kn, rfl⟩ : ∃ kn : Nat, k = (kn : Int) := ⟨k.toNat, by omega⟩
        simp only [Int.toNat_natCast] at f3 f4 HZ
        go_enter Try.func19, Try.ntmps19
        go_wp2_with (go_at_call 31; refine (is_any t.p t.W i j _ (by assumption)).mono ?_; rintro e w' ⟨rfl, rfl⟩; rw [hs'])
        go_quiet ((go_at_call 32; exact Calls.quiet_of_same (key_q t.p t.W _ _ _ f2 hW (by omega) (by omega) (by omega) (by omega))))
        go_wp2
        go_ret
        exact ⟨by rw [HZ.out]; rfl, pw_below_drewN (Below.refl _ _) _⟩
    · have hz : t.rank NM k i j = 0 := by simp [TS.rank, nameK, h2]
      have HZ := Lib.hid hz
      have h2' : (t.K : Int) ≤ k := by omega
      clear hz h2
      go_enter Try.func19, Try.ntmps19
      go_wp2
      go_ret
      exact ⟨by rw [HZ.out]; rfl, Below.refl _ _⟩
  · have hz : t.rank NM k i j = 0 := by simp [TS.rank, nameK, h1]
    have HZ := Lib.hid hz
    have h1' : k < 0 := by omega
    clear hz h1
    go_enter Try.func19, Try.ntmps19
    go_wp2
    go_ret
    exact ⟨by rw [HZ.out]; rfl, Below.refl _ _⟩
set_option maxHeartbeats 1000000 in
theorem has_any {w : World} {t : TS} {NM PL : Rk} (St : Stat w t) (F : t.Fits) (Rw : Rows w t NM PL) (k i j : Int) :
    Calls Try.prog 16 #[.pointer (some ⟨t.p, 0, none⟩), .int .i64 k, .int .i64 i, .int .i64 j] w
      fun e w' => e = .returned (.bool (decide (0 < t.rank NM k i j))) ∧ Below w.heap.size w w' := by
  have C := Lib.hid (rank_any St F Rw k i j)
  go_enter Try.func16, Try.ntmps16
  go_wp2_with (go_at_call 19; refine C.out.mono ?_; rintro e w' ⟨rfl, hb⟩; have HB := Lib.hid hb; clear hb)
  go_ret
  exact ⟨rfl, HB.out⟩

set_option maxHeartbeats 2000000 in
theorem seqsIs_any {w : World} {t : TS} (St : Stat w t) (F : t.Fits) (r c q : Int) :
    Calls Try.prog 36 #[.pointer (some ⟨t.p, 0, none⟩), .agg #[.int .i64 r, .int .i64 c, .int .i64 q]] w
      fun e w' => e = .returned (.bool (placeB t.G.rules r c q)) ∧ Below w.heap.size w w' := by
  have hrl := F.rules
  have hb0 : Below w.heap.size w (w.alloc (Obj.cells #[Value.int .i64 r, Value.int .i64 c, Value.int .i64 q] 56)) := below_alloc' (below_refl w) _
  have S := (St.below hb0).now
  have B0 := heap_alloc_new w (Obj.cells #[Value.int .i64 r, Value.int .i64 c, Value.int .i64 q] 56)
  generalize hw0 : w.alloc (Obj.cells #[Value.int .i64 r, Value.int .i64 c, Value.int .i64 q] 56) = w0 at hb0 S B0
  obtain ⟨cR, hR⟩ := S.cR
  have x0 : w0.cell? ⟨w.heap.size, 0, none⟩ = some (.int .i64 r) := blk_cell B0 0
  have x1 : w0.cell? ⟨w.heap.size, 1, none⟩ = some (.int .i64 c) := blk_cell B0 1
  have x2 : w0.cell? ⟨w.heap.size, 2, none⟩ = some (.int .i64 q) := blk_cell B0 2
  have HB := Lib.hid hb0
  clear hb0 B0
  by_cases h1 : 0 ≤ r
  · have d1 : decide (r < 0) = false := by simp; omega
    by_cases h2 : r < t.G.rules.length
    · have d2 : decide ((t.G.rules.length : Int) ≤ r) = false := by simp; omega
      obtain ⟨rn, rfl⟩ : ∃ rn : Nat, r = (rn : Int) := ⟨r.toNat, by omega⟩
      obtain ⟨x, hx⟩ : ∃ x, t.G.rules[rn]? = some x := ⟨_, List.getElem?_eq_getElem (by omega)⟩
      obtain ⟨ra, cC, era, lra, r0, r1⟩ := S.gR.rul rn x hx
      rw [era] at hR
      have hcn := (F.conj rn x hx).2
      by_cases h3 : 0 ≤ c
      · by_cases h4 : c < x.conj.length
        · obtain ⟨cn, rfl⟩ : ∃ cn : Nat, c = (cn : Int) := ⟨c.toNat, by omega⟩
          obtain ⟨y, hy⟩ : ∃ y, x.conj[cn]? = some y := ⟨_, List.getElem?_eq_getElem (by omega)⟩
          obtain ⟨ca, cS, eca, lca, c0, c1⟩ := S.gR.con rn x cn y hx hy
          rw [eca] at r1
          have hsn := F.seq rn x cn y hx hy
          have HZ := Lib.hid (show ∀ q, placeB t.G.rules rn cn q = (decide (0 ≤ q) && decide (q ≤ y.seq.length)) from fun q => by simp [placeB, hx, hy])
          clear era eca hx hy
          by_cases h5 : 0 ≤ q
          · by_cases h6 : q ≤ y.seq.length
            · have hf : placeB t.G.rules rn cn q = true := by rw [HZ.out]; simp [h5, h6]
              have HF := Lib.hid hf
              clear hf HZ
              go_enter Try.func36, Try.ntmps36
              go_wp2_with fail
              try rw [hw0]
              clear hw0
              go_quiet (fail)
              go_wp2_with fail
              go_quiet (fail)
              go_wp2_with fail
              go_quiet (fail)
              go_wp2
              go_ret
              exact ⟨by rw [HF.out]; rfl, pw_below_drewN (pw_below_drewN (pw_below_drewN HB.out _) _) _⟩
            · have d6 : decide (q ≤ (y.seq.length : Int)) = false := by simp; omega
              have hf : placeB t.G.rules rn cn q = false := by rw [HZ.out]; simp [h5, h6]
              have HF := Lib.hid hf
              clear hf HZ
              go_enter Try.func36, Try.ntmps36
              go_wp2_with fail
              try rw [hw0]
              clear hw0
              go_quiet (fail)
              go_wp2_with fail
              go_quiet (fail)
              go_wp2_with fail
              go_quiet (fail)
              go_wp2
              go_ret
              exact ⟨by rw [HF.out]; rfl, pw_below_drewN (pw_below_drewN (pw_below_drewN HB.out _) _) _⟩
          · have d5 : decide (0 ≤ q) = false := by simp; omega
            have hf : placeB t.G.rules rn cn q = false := by rw [HZ.out]; simp [h5]
            have HF := Lib.hid hf
            clear hf HZ
            go_enter Try.func36, Try.ntmps36
            go_wp2_with fail
            try rw [hw0]
            clear hw0
            go_quiet (fail)
            go_wp2_with fail
            go_quiet (fail)
            go_wp2_with fail
            go_quiet (fail)
            go_wp2
            go_ret
            exact ⟨by rw [HF.out]; rfl, pw_below_drewN (pw_below_drewN (pw_below_drewN HB.out _) _) _⟩
        · have d4 : decide (c < (x.conj.length : Int)) = false := by simp; omega
          have hf : placeB t.G.rules rn c q = false := by
            simp only [placeB, Int.toNat_natCast, hx]
            rw [List.getElem?_eq_none (by omega)]
            simp
          have HF := Lib.hid hf
          clear hf era hx
          go_enter Try.func36, Try.ntmps36
          go_wp2_with fail
          try rw [hw0]
          clear hw0
          go_quiet (fail)
          go_wp2_with fail
          go_quiet (fail)
          go_wp2_with fail
          go_quiet (fail)
          go_wp2
          go_ret
          exact ⟨by rw [HF.out]; rfl, pw_below_drewN (pw_below_drewN (pw_below_drewN HB.out _) _) _⟩
      · have d3 : decide (0 ≤ c) = false := by simp; omega
        have hf : placeB t.G.rules rn c q = false := by simp [placeB, hx, h3]
        have HF := Lib.hid hf
        clear hf era hx
        go_enter Try.func36, Try.ntmps36
        go_wp2_with fail
        try rw [hw0]
        clear hw0
        go_quiet (fail)
        go_wp2_with fail
        go_quiet (fail)
        go_wp2_with fail
        go_quiet (fail)
        go_wp2
        go_ret
        exact ⟨by rw [HF.out]; rfl, pw_below_drewN (pw_below_drewN (pw_below_drewN HB.out _) _) _⟩
    · have hf : placeB t.G.rules r c q = false := by
        simp only [placeB]
        rw [List.getElem?_eq_none (by omega)]
        simp
      have HF := Lib.hid hf
      have d2 : (t.G.rules.length : Int) ≤ r := by omega
      clear hf h2
      go_enter Try.func36, Try.ntmps36
      go_wp2_with fail
      try rw [hw0]
      clear hw0
      go_quiet (fail)
      go_wp2
      go_ret
      exact ⟨by rw [HF.out]; rfl, pw_below_drewN HB.out _⟩
  · have hf : placeB t.G.rules r c q = false := by simp [placeB, h1]
    have HF := Lib.hid hf
    have d1 : r < 0 := by omega
    clear hf h1
    go_enter Try.func36, Try.ntmps36
    go_wp2_with fail
    try rw [hw0]
    clear hw0
    go_quiet (fail)
    go_wp2
    go_ret
    exact ⟨by rw [HF.out]; rfl, pw_below_drewN HB.out _⟩
end Go.Proofs.Ytmccdakmdcdbeaa
