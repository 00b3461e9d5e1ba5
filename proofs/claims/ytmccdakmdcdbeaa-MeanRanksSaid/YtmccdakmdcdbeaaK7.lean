/-
  K7: templelaw11.least: of the rules that hold the least of their greatest ranks.
-/
import Derived.Test.YtmccdakmdcdbeaaK5
set_option linter.unusedSimpArgs false
set_option linter.unusedVariables false
namespace Go.Proofs.Ytmccdakmdcdbeaa
open Go.RowKit
attribute [local go_sem] max2_mxz max_mxz

def topR (t : TS) (PL : Rk) (r : Nat) (i j : Int) : Nat → Int
  | 0 => 0
  | n + 1 => mxz (topR t PL r i j n) (t.rrank PL r n 0 i j)
def topW (t : TS) (PL : Rk) (G : Gram) (r : Nat) (i j : Int) : Int :=
  match G.rules[r]? with
  | some x => topR t PL r i j x.conj.length
  | none => 0
def leastTo (t : TS) (PL : Rk) (G : Gram) (k i j : Int) : Nat → Int
  | 0 => -1
  | n + 1 => if ruleOk t PL G k i j n = true ∧ (leastTo t PL G k i j n < 0 ∨ topW t PL G n i j < leastTo t PL G k i j n) then topW t PL G n i j else leastTo t PL G k i j n
def LeastRel (w : World) (t : TS) (PL : Rk) (G : Gram) (k i j : Int) (best cnt : Value) (wr : World) : Prop :=
  ∃ r : Nat, cnt = .int .i64 r ∧ best = .int .i64 (leastTo t PL G k i j r) ∧ r ≤ G.rules.length ∧ Below w.heap.size w wr
def TopRel (w : World) (t : TS) (PL : Rk) (r : Nat) (cs : List Conj) (i j : Int) (fine top cnt : Value) (wr : World) : Prop :=
  ∃ c : Nat, cnt = .int .i64 c ∧ c ≤ cs.length ∧ fine = .bool (fineTo t PL r cs i j c) ∧ top = .int .i64 (topR t PL r i j c) ∧ Below w.heap.size w wr

set_option maxRecDepth 100000 in
set_option maxHeartbeats 4000000 in
theorem least_any {w : World} (G : Gram) {A A' : Option Addr} {c c' : Nat} {t : TS} {fin : Rk × Rk} (T : Tab w t fin) (hR : G.rules.length ≤ 256) (hcj : ∀ (r : Nat) (x : Rul), G.rules[r]? = some x → x.conj.length ≤ 8) (n6 : rulRd.C w A' G.rules) (k i j : Int) :
    Calls Try.prog 20 #[.agg #[.int .i64 G.start, .slice A G.names.length c, .slice A' G.rules.length c'], .pointer (some ⟨t.p, 0, none⟩), .int .i64 k, .int .i64 i, .int .i64 j] w
      fun e w' => e = .returned (.int .i64 (leastTo t fin.2 G k i j G.rules.length)) ∧ Below w.heap.size w w' := by
  have hb0 : Below w.heap.size w (w.alloc (Obj.cells #[Value.int .i64 G.start, Value.slice A G.names.length c, Value.slice A' G.rules.length c'] 25)) := below_alloc' (below_refl w) _
  have B0 := heap_alloc_new w (Obj.cells #[Value.int .i64 G.start, Value.slice A G.names.length c, Value.slice A' G.rules.length c'] 25)
  have TH := Lib.hid (T.below hb0)
  have N6 := Lib.hid (n6.mono hb0)
  clear T n6
  go_enter Try.func20, Try.ntmps20
  go_wp2_with fail
  obtain ⟨bx, hbx⟩ : ∃ bx, bx = w.heap.size := ⟨_, rfl⟩
  rw [← hbx] at B0 ⊢
  generalize w.alloc (Obj.cells #[Value.int .i64 G.start, Value.slice A G.names.length c, Value.slice A' G.rules.length c'] 25) = w0 at hb0 B0 TH N6 ⊢
  have HB0 := Lib.hid hb0
  have HX := Lib.hid B0
  clear hb0 B0 hbx
  go_loopw [11, 12] (fun best cnt wr => LeastRel w0 t fin.2 G k i j best cnt wr) (fun _ cnt _ => G.rules.length - (intOf cnt).toNat)
  case atStart => exact ⟨0, rfl, rfl, Nat.zero_le _, below_refl _⟩
  case round =>
    obtain ⟨r, rfl, rfl, hr, hb⟩ := hrel
    have HB := Lib.hid hb
    have z2 : wr.cell? ⟨bx, 2, none⟩ = some (.slice A' G.rules.length c') := blk_cell (blk_below HX.out hb) 2
    clear hb
    obtain ⟨b, hbe⟩ : ∃ b, b = leastTo t fin.2 G k i j r := ⟨_, rfl⟩
    have hst : leastTo t fin.2 G k i j (r + 1) = if ruleOk t fin.2 G k i j r = true ∧ (b < 0 ∨ topW t fin.2 G r i j < b) then topW t fin.2 G r i j else b := by rw [hbe]; rfl
    by_cases hlt : r < G.rules.length
    · rw [← hbe]
      clear hbe
      have HST := Lib.hid hst
      clear hst
      obtain ⟨x, hx⟩ : ∃ x, G.rules[r]? = some x := ⟨_, List.getElem?_eq_getElem hlt⟩
      obtain ⟨ad, Ac, cc, eA, -, q0, q1, l3, l4, hCC⟩ := rul_at N6.out hx
      have HQ1 := Lib.hid q1
      have HCC := Lib.hid hCC
      have HRX := Lib.hid hx
      have q0 := below_cell HB.out q0
      have q1 := below_cell HB.out q1
      subst eA
      have hki : (r : Int) < G.rules.length := by omega
      have hc8 := hcj r x hx
      clear hx hCC
      by_cases hk : x.head = k
      · have d0 : (x.head != k) = false := by simp [hk]
        go_wp2_with fail
        go_loopw [13, 14, 15] (fun fine top cnt wr' => TopRel w0 t fin.2 r x.conj i j fine top cnt wr') (fun _ _ cnt _ => x.conj.length - (intOf cnt).toNat)
        case atStart => exact ⟨0, rfl, Nat.zero_le _, rfl, rfl, HB.out⟩
        case round =>
          clear HB z2 q0 q1
          obtain ⟨m, rfl, hm, rfl, rfl, hb⟩ := hrel
          have HB := Lib.hid hb
          have z2 : wr.cell? ⟨bx, 2, none⟩ = some (.slice (some ad) G.rules.length c') := blk_cell (blk_below HX.out hb) 2
          have q1 := below_cell HB.out HQ1.out
          clear hb
          by_cases hltm : m < x.conj.length
          · obtain ⟨y, hy⟩ : ∃ y, x.conj[m]? = some y := ⟨_, List.getElem?_eq_getElem hltm⟩
            obtain ⟨ad2, As, cs, eA2, -, r0, r1, m3, m4, -⟩ := conj_at HCC.out hy
            subst eA2
            have r0 := below_cell HB.out r0
            have hkm : (m : Int) < x.conj.length := by omega
            have HF := Lib.hid (show fineTo t fin.2 r x.conj i j (m + 1) = (fineTo t fin.2 r x.conj i j m && (decide (0 < t.rrank fin.2 r m 0 i j) != y.neg)) by simp only [fineTo, hy])
            have T4 := Lib.hid (TH.out.below HB.out)
            clear r1 hy
            obtain ⟨tp, htp⟩ : ∃ tp, tp = topR t fin.2 r i j m := ⟨_, rfl⟩
            have HTP := Lib.hid (show topR t fin.2 r i j (m + 1) = mxz tp (t.rrank fin.2 r m 0 i j) by rw [htp]; rfl)
            rw [← htp]
            clear htp
            have hb1 : Below wr.heap.size wr (wr.alloc (Obj.cells #[Value.int .i64 r, Value.int .i64 m, Value.int .i64 0] 56)) := below_alloc' (below_refl wr) _
            have B1 := heap_alloc_new wr (Obj.cells #[Value.int .i64 r, Value.int .i64 m, Value.int .i64 0] 56)
            have T5 := Lib.hid (T4.out.below hb1)
            have HB1 := Lib.hid (below_trans HB.out hb1)
            have z2' := below_cell hb1 z2
            have q1' := below_cell hb1 q1
            have r0' := below_cell hb1 r0
            have p0 : (wr.alloc (Obj.cells #[Value.int .i64 r, Value.int .i64 m, Value.int .i64 0] 56)).cell? ⟨wr.heap.size, 0, none⟩ = some (.int .i64 r) := blk_cell B1 0
            have p1 : (wr.alloc (Obj.cells #[Value.int .i64 r, Value.int .i64 m, Value.int .i64 0] 56)).cell? ⟨wr.heap.size, 1, none⟩ = some (.int .i64 m) := blk_cell B1 1
            have p2 : (wr.alloc (Obj.cells #[Value.int .i64 r, Value.int .i64 m, Value.int .i64 0] 56)).cell? ⟨wr.heap.size, 2, none⟩ = some (.int .i64 0) := blk_cell B1 2
            clear hb1 B1
            cases hf : fineTo t fin.2 r x.conj i j m with
            | false =>
              rw [hf] at HF
              go_wp2_with fail
              obtain ⟨by_, hby⟩ : ∃ g, g = wr.heap.size := ⟨_, rfl⟩
              rw [← hby] at p0 p1 p2 ⊢
              generalize wr.alloc (Obj.cells #[Value.int .i64 r, Value.int .i64 m, Value.int .i64 0] 56) = w1 at p0 p1 p2 z2' q1' r0' T5 HB1 ⊢
              clear z2 q1 r0 hby
              go_quiet (fail)
              clear z2' q1' r0'
              go_wp2_with (first
                | (go_at_call 25; refine (restRank_any (T5.out.below (pw_below_drewN (below_refl _) _)).st T5.out.H.F (T5.out.below (pw_below_drewN (below_refl _) _)).rw _ _ _ _ _).mono ?_; rintro e w3 ⟨rfl, hb3⟩; have HB3 := Lib.hid (below_trans (pw_below_drewN HB1.out _) hb3); clear hb3)
                | fail)
              go_roundw
              case rel => exact ⟨m + 1, by go_num, by omega, by rw [HF.out]; rfl, by rw [HTP.out], HB3.out⟩
              case measure => simp [intOf]; omega
            | true =>
              rw [hf] at HF
              go_wp2_with fail
              obtain ⟨by_, hby⟩ : ∃ g, g = wr.heap.size := ⟨_, rfl⟩
              rw [← hby] at p0 p1 p2 ⊢
              generalize wr.alloc (Obj.cells #[Value.int .i64 r, Value.int .i64 m, Value.int .i64 0] 56) = w1 at p0 p1 p2 z2' q1' r0' T5 HB1 ⊢
              clear z2 q1 r0 hby
              go_region_held3 (fun w' => w'.cell? ⟨bx, 2, none⟩ = some (.slice (some ad) G.rules.length c') ∧ w'.cell? ⟨(ad.add (r * 2)).block, (ad.add (r * 2)).off + 1, none⟩ = some (.slice (some ad2) x.conj.length cc) ∧ w'.cell? (ad2.add (m * 2)) = some (.bool y.neg) ∧ w'.cell? ⟨by_, 0, none⟩ = some (.int .i64 r) ∧ w'.cell? ⟨by_, 1, none⟩ = some (.int .i64 m) ∧ w'.cell? ⟨by_, 2, none⟩ = some (.int .i64 0)) (first | exact ⟨j1, j2, j3, j4, j5, j6⟩ | exact ⟨z2', q1', r0', p0, p1, p2⟩)
                (first
                  | (go_at_call 24; refine (restHas_any (w := w1.drew) (T5.out.below (below_drew' (below_refl _))).st T5.out.H.F (T5.out.below (below_drew' (below_refl _))).rw _ _ _ _ _).mono ?_; rintro e w2 ⟨rfl, hb2⟩; have j1 := below_cell (w := w1.drew) hb2 z2'; have j2 := below_cell (w := w1.drew) hb2 q1'; have j3 := below_cell (w := w1.drew) hb2 r0'; have j4 := below_cell (w := w1.drew) hb2 p0; have j5 := below_cell (w := w1.drew) hb2 p1; have j6 := below_cell (w := w1.drew) hb2 p2; have T6 := Lib.hid ((T5.out.below (below_drew' (below_refl _))).below hb2); have HB2 := Lib.hid (below_trans (below_drew' HB1.out) hb2); clear hb2)
                  | fail)
              clear z2' q1' r0' p0 p1 p2
              go_wp2_with (first
                | (go_at_call 25; refine (restRank_any T6.out.st T6.out.H.F T6.out.rw _ _ _ _ _).mono ?_; rintro e w3 ⟨rfl, hb3⟩; have HB3 := Lib.hid (below_trans HB2.out hb3); clear hb3)
                | fail)
              go_roundw
              case rel => exact ⟨m + 1, by go_num, by omega, by rw [HF.out]; rfl, by rw [HTP.out], HB3.out⟩
              case measure => simp [intOf]; omega
          · have hm' : m = x.conj.length := by omega
            subst hm'
            have HTW := Lib.hid (show topW t fin.2 G r i j = topR t fin.2 r i j x.conj.length by unfold topW; rw [HRX.out])
            rw [HTW.out] at HST
            generalize topR t fin.2 r i j x.conj.length = tp at HST ⊢
            cases hf : fineTo t fin.2 r x.conj i j x.conj.length with
            | true =>
              have hok : ruleOk t fin.2 G k i j r = true := by unfold ruleOk; rw [HRX.out]; simp [hk, hf]
              clear hf
              by_cases c1 : b < 0
              · have d1 : decide (b < 0) = true := by simpa using c1
                have HS := Lib.hid (show leastTo t fin.2 G k i j (r + 1) = tp by rw [HST.out, if_pos ⟨hok, .inl c1⟩])
                clear hok
                go_wp2_with fail
                go_roundw
                case rel => exact ⟨r + 1, by go_num, by rw [HS.out], by omega, HB.out⟩
                case measure => simp [intOf]; omega
              · have d1 : decide (b < 0) = false := by simpa using c1
                by_cases c2 : tp < b
                · have d2 : decide (tp < b) = true := by simpa using c2
                  have HS := Lib.hid (show leastTo t fin.2 G k i j (r + 1) = tp by rw [HST.out, if_pos ⟨hok, .inr c2⟩])
                  clear hok
                  go_wp2_with fail
                  go_roundw
                  case rel => exact ⟨r + 1, by go_num, by rw [HS.out], by omega, HB.out⟩
                  case measure => simp [intOf]; omega
                · have d2 : decide (tp < b) = false := by simpa using c2
                  have HS := Lib.hid (show leastTo t fin.2 G k i j (r + 1) = b by rw [HST.out, if_neg (by rintro ⟨-, h | h⟩; exact c1 h; exact c2 h)])
                  clear hok
                  go_wp2_with fail
                  go_roundw
                  case rel => exact ⟨r + 1, by go_num, by rw [HS.out], by omega, HB.out⟩
                  case measure => simp [intOf]; omega
            | false =>
              have HS := Lib.hid (show leastTo t fin.2 G k i j (r + 1) = b by rw [HST.out, if_neg (by rintro ⟨h, -⟩; unfold ruleOk at h; rw [HRX.out] at h; simp [hf] at h)])
              clear hf
              go_wp2_with fail
              go_roundw
              case rel => exact ⟨r + 1, by go_num, by rw [HS.out], by omega, HB.out⟩
              case measure => simp [intOf]; omega
      · have d0 : (x.head != k) = true := by simp [hk]
        have HS := Lib.hid (show leastTo t fin.2 G k i j (r + 1) = b by rw [HST.out, if_neg (by rintro ⟨h, -⟩; unfold ruleOk at h; rw [HRX.out] at h; simp [hk] at h)])
        go_wp2_with fail
        go_roundw
        case rel => exact ⟨r + 1, by go_num, by rw [HS.out], by omega, HB.out⟩
        case measure => simp [intOf]; omega
    · have hr' : r = G.rules.length := by omega
      subst hr'
      have HBE := Lib.hid hbe
      rw [← hbe]
      clear hst hbe
      go_wp2_with fail
      go_ret
      exact ⟨by rw [HBE.out]; rfl, below_trans HB0.out HB.out⟩
end Go.Proofs.Ytmccdakmdcdbeaa
