/-
  T2: templeref1.ruleMay, templeref1.May: yes of each grammar that may be.
-/
import Derived.Test.YtmccdakmdcdbeaaT1
import Derived.Test.YtmccdakmdcdbeaaW3
import Derived.Test.YtmccdakmdcdbeaaM7
set_option linter.unusedSimpArgs false
set_option linter.unusedVariables false
namespace Go.Proofs.Ytmccdakmdcdbeaa
open Go.RowKit

theorem all_at {α : Type} {l : List α} {p : α → Bool} (h : l.all p = true) {k : Nat} {y : α} (hx : l[k]? = some y) : p y = true := List.all_eq_true.1 h y (List.mem_of_getElem? hx)
def RSumRel (w : World) (x : Rul) (num cnt : Value) (wr : World) : Prop :=
  ∃ k : Nat, cnt = .int .i64 k ∧ k ≤ x.conj.length ∧ num = .int .i64 (sSum x.conj k) ∧ sSum x.conj k ≤ 64 * k ∧ Below w.heap.size w wr
def UpTo (w : World) (n : Nat) (cnt : Value) (wr : World) : Prop := ∃ k : Nat, cnt = .int .i64 k ∧ k ≤ n ∧ Below w.heap.size w wr

set_option maxRecDepth 100000 in
set_option maxHeartbeats 2000000 in
theorem rrule_any {w : World} {x : Rul} {n : Int} {A1 : Option Addr} {c1 : Nat} (hC : conjRd.C w A1 x.conj) (hr : ruleB x n = true) :
    Calls Try.prog 35 #[.agg #[.int .i64 x.head, .slice A1 x.conj.length c1], .int .i64 n] w fun e w' => e = .returned (.tuple #[.int .i64 (sSum x.conj x.conj.length), .bool true]) ∧ Below w.heap.size w w' := by
  simp only [ruleB, Bool.and_eq_true, decide_eq_true_eq] at hr
  obtain ⟨⟨h1, h2⟩, h3⟩ := hr
  have d1 : decide ((x.conj.length : Int) < 1) = false := by simp; omega
  have d2 : decide ((8 : Int) < x.conj.length) = false := by simp; omega
  have H3 := Lib.hid h3
  have hb0 : Below w.heap.size w (w.alloc (Obj.cells #[Value.int .i64 x.head, Value.slice A1 x.conj.length c1] 53)) := below_alloc' (below_refl w) _
  have B0 := heap_alloc_new w (Obj.cells #[Value.int .i64 x.head, Value.slice A1 x.conj.length c1] 53)
  have HC := Lib.hid (hC.mono hb0)
  clear h3 hC
  go_enter Try.func35, Try.ntmps35
  go_wp2_with fail
  obtain ⟨bx, hbx⟩ : ∃ bx, bx = w.heap.size := ⟨_, rfl⟩
  rw [← hbx] at B0 ⊢
  generalize w.alloc (Obj.cells #[Value.int .i64 x.head, Value.slice A1 x.conj.length c1] 53) = w0 at hb0 B0 HC ⊢
  have HB0 := Lib.hid hb0
  have HX := Lib.hid B0
  clear hb0 B0 hbx
  go_loopw [6, 7] (fun num cnt wr => RSumRel w0 x num cnt wr) (fun _ cnt _ => x.conj.length - (intOf cnt).toNat)
  case atStart => exact ⟨0, rfl, Nat.zero_le _, rfl, Nat.le_refl _, below_refl _⟩
  case round =>
    obtain ⟨k, rfl, hk, rfl, hs, hb⟩ := hrel
    have HB := Lib.hid hb
    have z1 : wr.cell? ⟨bx, 1, none⟩ = some (.slice A1 x.conj.length c1) := blk_cell (blk_below HX.out hb) 1
    clear hb
    by_cases hlt : k < x.conj.length
    · obtain ⟨y, hy⟩ : ∃ y, x.conj[k]? = some y := ⟨_, List.getElem?_eq_getElem hlt⟩
      obtain ⟨ad, A2, c2, eA, -, -, q1, l5, l6, hSS⟩ := conj_at (HC.out.mono HB.out) hy
      subst eA
      have hki : (k : Int) < x.conj.length := by omega
      have hcj := all_at H3.out hy
      simp only [conjB, Bool.and_eq_true, decide_eq_true_eq] at hcj
      obtain ⟨h4, h5⟩ := hcj
      have d3 : decide ((64 : Int) < y.seq.length) = false := by simp; omega
      have H5 := Lib.hid h5
      have HSS := Lib.hid hSS
      have HSK := Lib.hid (sSum_succ hy)
      clear hy hSS h5
      go_wp2_with fail
      obtain ⟨wo, rfl⟩ : ∃ wo : World, wo = wr := ⟨_, rfl⟩
      go_loopw [9] (fun cnt wr' => UpTo wo y.seq.length cnt wr') (fun cnt _ => y.seq.length - (intOf cnt).toNat)
      case atStart => exact ⟨0, rfl, Nat.zero_le _, below_refl _⟩
      case round =>
        clear z1 q1
        obtain ⟨q, rfl, hq, hb⟩ := hrel
        have HB2 := Lib.hid hb
        clear hb
        by_cases hltq : q < y.seq.length
        · obtain ⟨s, hsy⟩ : ∃ s, y.seq[q]? = some s := ⟨_, List.getElem?_eq_getElem hltq⟩
          obtain ⟨ad2, eA, -, s0, s1, s2⟩ := sym_at (HSS.out.mono HB2.out) hsy
          subst eA
          have hqi : (q : Int) < y.seq.length := by omega
          have HSB := Lib.hid (all_at H5.out hsy)
          clear hsy
          go_wp2_with (first
            | (go_at_call 43; refine (rsymbol_any s n _).mono ?_; rintro e w5 ⟨rfl, hb5⟩; rw [HSB.out]; have HB5 := Lib.hid hb5; clear hb5)
            | fail)
          go_roundw
          case rel => exact ⟨q + 1, by go_num, by omega, below_trans HB2.out HB5.out⟩
          case measure => simp [intOf]; omega
        · have hqe : q = y.seq.length := by omega
          subst hqe
          have e1 : IntKind.i64.wrap ((sSum x.conj k : Int) + (y.seq.length : Int)) = ((sSum x.conj k + y.seq.length : Nat) : Int) := by rw [IntWalk.i64_in _ (by omega)]; omega
          go_wp2_with fail
          go_roundw
          case rel => exact ⟨k + 1, by go_num, by omega, by rw [HSK.out]; go_num, by rw [HSK.out]; omega, below_trans HB.out HB2.out⟩
          case measure => simp [intOf]; omega
    · have hke : k = x.conj.length := by omega
      subst hke
      go_wp2_with fail
      go_ret2
      exact ⟨rfl, below_trans HB0.out HB.out⟩

def RMayRel (w : World) (G : Gram) (head many cnt : Value) (wr : World) : Prop :=
  ∃ k : Nat, cnt = .int .i64 k ∧ k ≤ G.rules.length ∧ head = .int .i64 (hdAt G.rules k) ∧ many = .int .i64 (tot G.rules k) ∧ tot G.rules k ≤ 1024 ∧ Below w.heap.size w wr
theorem stepsB_to {rs : List Rul} {n : Int} {k m : Nat} (h : stepsB rs n m = true) (hk : k ≤ m) : stepsB rs n k = true := by
  unfold stepsB at h ⊢
  rw [List.all_eq_true] at h ⊢
  intro i hi
  exact h i (List.mem_range.2 (by have := List.mem_range.1 hi; omega))

set_option maxRecDepth 100000 in
set_option maxHeartbeats 4000000 in
theorem rmay_any {w : World} {G : Gram} {A A' : Option Addr} {c c' : Nat} (n3 : Rd.str.C w A G.names) (n6 : rulRd.C w A' G.rules) (hm : mayB G = true) :
    Calls Try.prog 21 #[.agg #[.int .i64 G.start, .slice A G.names.length c, .slice A' G.rules.length c']] w fun e w' => e = .returned (.bool true) ∧ Below w.heap.size w w' := by
  have hb0 : Below w.heap.size w (w.alloc (Obj.cells #[Value.int .i64 G.start, Value.slice A G.names.length c, Value.slice A' G.rules.length c'] 25)) := below_alloc' (below_refl w) _
  have B0 := heap_alloc_new w (Obj.cells #[Value.int .i64 G.start, Value.slice A G.names.length c, Value.slice A' G.rules.length c'] 25)
  have N3 := Lib.hid (n3.mono hb0)
  have N6 := Lib.hid (n6.mono hb0)
  clear n3 n6
  have MG := Lib.hid (mayG hm)
  simp only [mayB, namesB, Bool.and_eq_true, decide_eq_true_eq] at hm
  obtain ⟨⟨⟨⟨⟨⟨⟨⟨⟨⟨m1, m2⟩, m3⟩, m4⟩, m5⟩, m6⟩, m7⟩, m8⟩, m9⟩, m10⟩, m11⟩ := hm
  have d1 : decide ((G.names.length : Int) < 1) = false := by simp; omega
  have d2 : decide ((64 : Int) < G.names.length) = false := by simp; omega
  have d3 : decide (G.start < 0) = false := by simp; omega
  have d4 : decide ((G.names.length : Int) ≤ G.start) = false := by simp; omega
  have d5 : decide ((G.rules.length : Int) < 1) = false := by simp; omega
  have d6 : decide ((256 : Int) < G.rules.length) = false := by simp; omega
  have M3 := Lib.hid m3
  have M4 := Lib.hid m4
  have M9 := Lib.hid m9
  have M11 := Lib.hid m11
  clear m3 m4 m9 m10 m11
  go_enter Try.func21, Try.ntmps21
  go_wp2_with fail
  obtain ⟨bx, hbx⟩ : ∃ bx, bx = w.heap.size := ⟨_, rfl⟩
  rw [← hbx] at B0 ⊢
  generalize w.alloc (Obj.cells #[Value.int .i64 G.start, Value.slice A G.names.length c, Value.slice A' G.rules.length c'] 25) = w0 at hb0 B0 N3 N6 ⊢
  have HB0 := Lib.hid hb0
  have HX := Lib.hid B0
  clear hb0 B0 hbx d1 d2 d3 d4 d5 d6
  go_loopw [3] (fun cnt wr => UpTo w0 G.names.length cnt wr) (fun cnt _ => G.names.length - (intOf cnt).toNat)
  case atStart => exact ⟨0, rfl, Nat.zero_le _, below_refl _⟩
  case round =>
    obtain ⟨k, rfl, hk, hb⟩ := hrel
    have HB := Lib.hid hb
    have z1 : wr.cell? ⟨bx, 1, none⟩ = some (.slice A G.names.length c) := blk_cell (blk_below HX.out hb) 1
    have z2 : wr.cell? ⟨bx, 2, none⟩ = some (.slice A' G.rules.length c') := blk_cell (blk_below HX.out hb) 2
    clear hb
    by_cases hlt : k < G.names.length
    · obtain ⟨s, hsn⟩ : ∃ s, G.names[k]? = some s := ⟨_, List.getElem?_eq_getElem hlt⟩
      obtain ⟨ad, eA, q0⟩ := Rd.C.one (N3.out.mono HB.out) hsn
      subst eA
      have HN3 := Lib.hid (N3.out.mono HB.out)
      have hki : (k : Int) < G.names.length := by omega
      have HSN := Lib.hid hsn
      have HNB := Lib.hid (all_at M3.out hsn)
      clear hsn
      go_wp2_with fail
      go_quiet ((first
        | (go_at_call 33; exact Calls.quiet_of_same (rname_any s _ HNB.out))
        | (go_at_call 34; exact Calls.quiet_of_same (rfind_any (w := _) (by exact HN3.out.mono (pw_below_drewN (below_refl _) _)) (by omega) HSN.out M4.out))))
      go_wp2_with fail
      go_roundw
      case rel => exact ⟨k + 1, by go_num, by omega, pw_below_drewN HB.out _⟩
      case measure => simp [intOf]; omega
    · have hke : k = G.names.length := by omega
      subst hke
      go_wp2_with fail
      clear z1 z2
      go_loopw [4, 5, 6] (fun head many cnt wr' => RMayRel w0 G head many cnt wr') (fun _ _ cnt _ => G.rules.length - (intOf cnt).toNat)
      case atStart => exact ⟨0, rfl, Nat.zero_le _, rfl, rfl, Nat.zero_le _, HB.out⟩
      case round =>
        clear HB
        obtain ⟨r, rfl, hr, rfl, rfl, ht, hb⟩ := hrel
        have HB := Lib.hid hb
        have z1 : wr.cell? ⟨bx, 1, none⟩ = some (.slice A G.names.length c) := blk_cell (blk_below HX.out hb) 1
        have z2 : wr.cell? ⟨bx, 2, none⟩ = some (.slice A' G.rules.length c') := blk_cell (blk_below HX.out hb) 2
        clear hb
        by_cases hltr : r < G.rules.length
        · obtain ⟨x, hx⟩ : ∃ x, G.rules[r]? = some x := ⟨_, List.getElem?_eq_getElem hltr⟩
          obtain ⟨ad, A1, c1, eA, -, q0, q1, l3, l4, hCC⟩ := rul_at (N6.out.mono HB.out) hx
          subst eA
          have hki : (r : Int) < G.rules.length := by omega
          have hst := stepsB_at M9.out hltr
          have hto := stepsB_hd (stepsB_to M9.out (k := r) (by omega))
          have hto2 := stepsB_hd (stepsB_to M9.out (k := r + 1) (by omega))
          have hall := stepsB_hd M9.out
          simp only [stepB, hx, Bool.and_eq_true, decide_eq_true_eq] at hst
          obtain ⟨⟨⟨b1, b2⟩, b3⟩, b4⟩ := hst
          have hsn := sSum_le b1
          have HTS := Lib.hid (show tot G.rules (r + 1) = tot G.rules r + sSum x.conj x.conj.length by simp [tot, hx])
          have HHS := Lib.hid (show hdAt G.rules (r + 1) = x.head by simp [hdAt, hx])
          rw [HTS.out] at b4
          rw [HHS.out] at hto2
          have hxl := MG.out.head r x hx
          have HRB := Lib.hid b1
          have HCC := Lib.hid hCC
          clear hx hCC
          obtain ⟨hd, ehd⟩ : ∃ hd, hd = hdAt G.rules r := ⟨_, rfl⟩
          rw [← ehd] at b2 b3 hto ⊢
          obtain ⟨tt, ett⟩ : ∃ tt : Nat, tt = tot G.rules r := ⟨_, rfl⟩
          rw [← ett] at ht b4 HTS ⊢
          obtain ⟨sn, esn⟩ : ∃ sn : Nat, sn = sSum x.conj x.conj.length := ⟨_, rfl⟩
          rw [← esn] at hsn b4 HTS
          have ESN := Lib.hid esn
          clear ehd ett esn hall
          have hx0 : 0 ≤ x.head := hxl.1
          have hx1 : x.head < G.names.length := hxl.2
          clear hxl
          have e0 : IntKind.i64.wrap (hd + 1) = hd + 1 := IntWalk.i64_in _ (by omega)
          have g0 : decide (x.head < 0) = false := by simp; omega
          have g1 : decide ((G.names.length : Int) ≤ x.head) = false := by simp; omega
          have e1 : IntKind.i64.wrap ((tt : Int) + (sn : Int)) = ((tt + sn : Nat) : Int) := by rw [IntWalk.i64_in _ (by omega)]; omega
          have CR := Lib.hid (rrule_any (w := wr.drew) (c1 := c1) (HCC.out.mono (below_drew' (below_refl _))) HRB.out)
          rw [← ESN.out] at CR
          by_cases hh : x.head = hd
          · have g2 : (x.head != hd) = false := by simp [hh]
            clear hh
            go_wp2_with fail
            go_region_held3 (fun w' => w'.cell? ⟨bx, 1, none⟩ = some (.slice A G.names.length c) ∧ w'.cell? ⟨bx, 2, none⟩ = some (.slice (some ad) G.rules.length c') ∧ w'.cell? (ad.add (r * 2)) = some (.int .i64 x.head) ∧ w'.cell? ⟨(ad.add (r * 2)).block, (ad.add (r * 2)).off + 1, none⟩ = some (.slice A1 x.conj.length c1)) (first | exact ⟨j1, j2, j3, j4⟩ | exact ⟨z1, z2, q0, q1⟩)
                (first
                  | (go_at_call 35; refine CR.out.mono ?_; rintro e w5 ⟨rfl, hb5⟩; have j1 := below_cell (w := wr.drew) hb5 z1; have j2 := below_cell (w := wr.drew) hb5 z2; have j3 := below_cell (w := wr.drew) hb5 q0; have j4 := below_cell (w := wr.drew) hb5 q1; have HB5 := Lib.hid (below_trans (below_drew' HB.out) hb5); clear hb5)
                  | fail)
            all_goals
              clear z1 z2 q0 q1
              go_wp2_with fail
              go_roundw
              case rel => exact ⟨r + 1, by go_num, by omega, by rw [HHS.out], by rw [HTS.out]; go_num, by rw [HTS.out]; exact b4, HB5.out⟩
              case measure => simp [intOf]; omega
          · have g2 : (x.head != hd) = true := by simp [hh]
            have g3 : (x.head != hd + 1) = false := by simp; omega
            go_wp2_with fail
            go_region_held3 (fun w' => w'.cell? ⟨bx, 1, none⟩ = some (.slice A G.names.length c) ∧ w'.cell? ⟨bx, 2, none⟩ = some (.slice (some ad) G.rules.length c') ∧ w'.cell? (ad.add (r * 2)) = some (.int .i64 x.head) ∧ w'.cell? ⟨(ad.add (r * 2)).block, (ad.add (r * 2)).off + 1, none⟩ = some (.slice A1 x.conj.length c1)) (first | exact ⟨j1, j2, j3, j4⟩ | exact ⟨z1, z2, q0, q1⟩)
                (first
                  | (go_at_call 35; refine CR.out.mono ?_; rintro e w5 ⟨rfl, hb5⟩; have j1 := below_cell (w := wr.drew) hb5 z1; have j2 := below_cell (w := wr.drew) hb5 z2; have j3 := below_cell (w := wr.drew) hb5 q0; have j4 := below_cell (w := wr.drew) hb5 q1; have HB5 := Lib.hid (below_trans (below_drew' HB.out) hb5); clear hb5)
                  | fail)
            all_goals
              clear z1 z2 q0 q1
              go_wp2_with fail
              go_roundw
              case rel => exact ⟨r + 1, by go_num, by omega, by rw [HHS.out], by rw [HTS.out]; go_num, by rw [HTS.out]; exact b4, HB5.out⟩
              case measure => simp [intOf]; omega
        · have hre : r = G.rules.length := by omega
          subst hre
          have e11 := M11.out
          generalize hdAt G.rules G.rules.length = hd at e11 ⊢
          have e2 : IntKind.i64.wrap ((G.names.length : Int) - 1) = (G.names.length : Int) - 1 := IntWalk.i64_in _ (by omega)
          have g9 : (hd == (G.names.length : Int) - 1) = true := by simp; omega
          have g8 : decide ((tot G.rules G.rules.length : Int) ≤ 1024) = true := by simp; omega
          go_wp2_with fail
          go_ret
          exact ⟨rfl, below_trans HB0.out HB.out⟩
end Go.Proofs.Ytmccdakmdcdbeaa
