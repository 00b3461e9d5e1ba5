/-
  K3: templelaw11.ruled: does one of a name's rules hold?
-/
import Derived.Test.YtmccdakmdcdbeaaK2
set_option linter.unusedSimpArgs false
set_option linter.unusedVariables false
namespace Go.Proofs.Ytmccdakmdcdbeaa
open Go.RowKit

def fineTo (t : TS) (PL : Rk) (r : Nat) (cs : List Conj) (i j : Int) : Nat → Bool
  | 0 => true
  | n + 1 => fineTo t PL r cs i j n && (match cs[n]? with | some y => (decide (0 < t.rrank PL r n 0 i j) != y.neg) | none => true)
def ruleOk (t : TS) (PL : Rk) (G : Gram) (k i j : Int) (r : Nat) : Bool :=
  match G.rules[r]? with
  | some x => decide (x.head = k) && fineTo t PL r x.conj i j x.conj.length
  | none => false
def ruledTo (t : TS) (PL : Rk) (G : Gram) (k i j : Int) : Nat → Bool
  | 0 => false
  | n + 1 => ruledTo t PL G k i j n || ruleOk t PL G k i j n
def RuledRel (w : World) (t : TS) (PL : Rk) (G : Gram) (k i j : Int) (cnt : Value) (wr : World) : Prop :=
  ∃ r : Nat, cnt = .int .i64 r ∧ r ≤ G.rules.length ∧ ruledTo t PL G k i j r = false ∧ Below w.heap.size w wr
def FineRel (w : World) (t : TS) (PL : Rk) (r : Nat) (cs : List Conj) (i j : Int) (fine cnt : Value) (wr : World) : Prop :=
  ∃ c : Nat, cnt = .int .i64 c ∧ c ≤ cs.length ∧ fine = .bool (fineTo t PL r cs i j c) ∧ Below w.heap.size w wr
theorem ruledTo_true {t : TS} {PL : Rk} {G : Gram} {k i j : Int} {r : Nat} (h : ruleOk t PL G k i j r = true) : ∀ n, r < n → ruledTo t PL G k i j n = true := by
  intro n
  induction n with
  | zero => intro h; omega
  | succ n ih =>
    intro hr
    unfold ruledTo
    by_cases e : r = n
    · subst e; rw [h]; simp
    · rw [ih (by omega)]; rfl

set_option maxRecDepth 100000 in
set_option maxHeartbeats 4000000 in
theorem ruled_any {w : World} (G : Gram) {A A' : Option Addr} {c c' : Nat} {t : TS} {fin : Rk × Rk} (T : Tab w t fin) (hR : G.rules.length ≤ 256) (hcj : ∀ (r : Nat) (x : Rul), G.rules[r]? = some x → x.conj.length ≤ 8) (n6 : rulRd.C w A' G.rules) (k i j : Int) :
    Calls Try.prog 17 #[.agg #[.int .i64 G.start, .slice A G.names.length c, .slice A' G.rules.length c'], .pointer (some ⟨t.p, 0, none⟩), .int .i64 k, .int .i64 i, .int .i64 j] w
      fun e w' => e = .returned (.bool (ruledTo t fin.2 G k i j G.rules.length)) ∧ Below w.heap.size w w' := by
  have hb0 : Below w.heap.size w (w.alloc (Obj.cells #[Value.int .i64 G.start, Value.slice A G.names.length c, Value.slice A' G.rules.length c'] 25)) := below_alloc' (below_refl w) _
  have B0 := heap_alloc_new w (Obj.cells #[Value.int .i64 G.start, Value.slice A G.names.length c, Value.slice A' G.rules.length c'] 25)
  have TH := Lib.hid (T.below hb0)
  have N6 := Lib.hid (n6.mono hb0)
  clear T n6
  go_enter Try.func17, Try.ntmps17
  go_wp2_with fail
  obtain ⟨bx, hbx⟩ : ∃ bx, bx = w.heap.size := ⟨_, rfl⟩
  rw [← hbx] at B0 ⊢
  generalize w.alloc (Obj.cells #[Value.int .i64 G.start, Value.slice A G.names.length c, Value.slice A' G.rules.length c'] 25) = w0 at hb0 B0 TH N6 ⊢
  have HB0 := Lib.hid hb0
  have HX := Lib.hid B0
  clear hb0 B0 hbx
  go_loopw [11] (fun cnt wr => RuledRel w0 t fin.2 G k i j cnt wr) (fun cnt _ => G.rules.length - (intOf cnt).toNat)
  case atStart => exact ⟨0, rfl, Nat.zero_le _, rfl, below_refl _⟩
  case round =>
    obtain ⟨r, rfl, hr, hno, hb⟩ := hrel
    have HB := Lib.hid hb
    have HNO := Lib.hid hno
    have z2 : wr.cell? ⟨bx, 2, none⟩ = some (.slice A' G.rules.length c') := blk_cell (blk_below HX.out hb) 2
    clear hb hno
    by_cases hlt : r < G.rules.length
    · obtain ⟨x, hx⟩ : ∃ x, G.rules[r]? = some x := ⟨_, List.getElem?_eq_getElem hlt⟩
      obtain ⟨ad, Ac, cc, eA, -, q0, q1, l3, l4, hCC⟩ := rul_at N6.out hx
      have HQ1 := Lib.hid q1
      have HCC := Lib.hid hCC
      have HRX := Lib.hid hx
      have q0 := below_cell HB.out q0
      have q1 := below_cell HB.out q1
      subst eA
      have hki : (r : Int) < G.rules.length := by omega
      have hc8 := hcj r x hx
      clear hx hCC
      by_cases hk : x.head = k
      · have d0 : (x.head != k) = false := by simp [hk]
        go_wp2_with fail
        go_loopw [12, 13] (fun fine cnt wr' => FineRel w0 t fin.2 r x.conj i j fine cnt wr') (fun _ cnt _ => x.conj.length - (intOf cnt).toNat)
        case atStart => exact ⟨0, rfl, Nat.zero_le _, rfl, HB.out⟩
        case round =>
          clear HB z2 q0 q1
          obtain ⟨m, rfl, hm, rfl, hb⟩ := hrel
          have HB := Lib.hid hb
          have z2 : wr.cell? ⟨bx, 2, none⟩ = some (.slice (some ad) G.rules.length c') := blk_cell (blk_below HX.out hb) 2
          have q1 := below_cell HB.out HQ1.out
          clear hb
          by_cases hltm : m < x.conj.length
          · obtain ⟨y, hy⟩ : ∃ y, x.conj[m]? = some y := ⟨_, List.getElem?_eq_getElem hltm⟩
            obtain ⟨ad2, As, cs, eA2, -, r0, r1, m3, m4, -⟩ := conj_at HCC.out hy
            subst eA2
            have r0 := below_cell HB.out r0
            have hkm : (m : Int) < x.conj.length := by omega
            have HF := Lib.hid (show fineTo t fin.2 r x.conj i j (m + 1) = (fineTo t fin.2 r x.conj i j m && (decide (0 < t.rrank fin.2 r m 0 i j) != y.neg)) by simp only [fineTo, hy])
            have T4 := Lib.hid (TH.out.below HB.out)
            clear r1 hy
            cases hf : fineTo t fin.2 r x.conj i j m with
            | false =>
              rw [hf] at HF
              go_wp2_with fail
              go_quiet (fail)
              go_wp2_with fail
              go_roundw
              case rel => exact ⟨m + 1, by go_num, by omega, by rw [HF.out]; rfl, below_drewN HB.out _⟩
              case measure => simp [intOf]; omega
            | true =>
              rw [hf] at HF
              go_wp2_with fail
              go_region_held3 (fun w' => w'.cell? ⟨bx, 2, none⟩ = some (.slice (some ad) G.rules.length c') ∧ w'.cell? ⟨(ad.add (r * 2)).block, (ad.add (r * 2)).off + 1, none⟩ = some (.slice (some ad2) x.conj.length cc) ∧ w'.cell? (ad2.add (m * 2)) = some (.bool y.neg)) (first | exact ⟨j1, j2, j3⟩ | exact ⟨z2, q1, r0⟩)
                (first
                  | (go_at_call 24; refine (restHas_any (w := wr.drew) (T4.out.below (below_drew' (below_refl _))).st T4.out.H.F (T4.out.below (below_drew' (below_refl _))).rw _ _ _ _ _).mono ?_; rintro e w2 ⟨rfl, hb2⟩; have j1 := below_cell (w := wr.drew) hb2 z2; have j2 := below_cell (w := wr.drew) hb2 q1; have j3 := below_cell (w := wr.drew) hb2 r0; have HB2 := Lib.hid hb2; clear hb2)
                  | fail)
              go_wp2_with fail
              go_roundw
              case rel => exact ⟨m + 1, by go_num, by omega, by rw [HF.out]; rfl, below_trans (below_drew' HB.out) HB2.out⟩
              case measure => simp [intOf]; omega
          · have hm' : m = x.conj.length := by omega
            subst hm'
            cases hf : fineTo t fin.2 r x.conj i j x.conj.length with
            | true =>
              have HK := Lib.hid (ruledTo_true (show ruleOk t fin.2 G k i j r = true by unfold ruleOk; rw [HRX.out]; simp [hk, hf]) G.rules.length hlt)
              clear hf
              go_wp2_with fail
              go_ret
              exact ⟨by rw [HK.out]; rfl, below_trans HB0.out HB.out⟩
            | false =>
              have HK := Lib.hid (show ruleOk t fin.2 G k i j r = false by unfold ruleOk; rw [HRX.out]; simp [hk, hf])
              clear hf
              go_wp2_with fail
              go_roundw
              case rel => exact ⟨r + 1, by go_num, by omega, by unfold ruledTo; rw [HNO.out, HK.out]; rfl, HB.out⟩
              case measure => simp [intOf]; omega
      · have d0 : (x.head != k) = true := by simp [hk]
        have HK := Lib.hid (show ruleOk t fin.2 G k i j r = false by unfold ruleOk; rw [HRX.out]; simp [hk])
        go_wp2_with fail
        go_roundw
        case rel => exact ⟨r + 1, by go_num, by omega, by unfold ruledTo; rw [HNO.out, HK.out]; rfl, HB.out⟩
        case measure => simp [intOf]; omega
    · have hr' : r = G.rules.length := by omega
      subst hr'
      go_wp2_with fail
      go_ret
      exact ⟨by rw [HNO.out]; rfl, below_trans HB0.out HB.out⟩
end Go.Proofs.Ytmccdakmdcdbeaa
