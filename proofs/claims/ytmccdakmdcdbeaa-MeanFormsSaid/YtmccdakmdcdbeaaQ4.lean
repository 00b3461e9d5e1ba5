/-
  Q4: templelaw11.MeanPairs answers true.
-/
import Derived.Test.YtmccdakmdcdbeaaK6
import Derived.Test.YtmccdakmdcdbeaaQ3
import Derived.Test.YtmccdakmdcdbeaaU1
import Derived.Laws.Bits64b
set_option linter.unusedSimpArgs false
set_option linter.unusedVariables false
namespace Go.Proofs.Ytmccdakmdcdbeaa
open Go.RowKit

theorem and_small (x : Int) {m : Nat} (hm : m < 9223372036854775808) : 0 ≤ bits .and .i64 x m ∧ bits .and .i64 x m ≤ m := by
  show 0 ≤ IntKind.i64.wrap ((BitVec.ofInt 64 x &&& BitVec.ofInt 64 (m : Int)).toNat : Int) ∧ IntKind.i64.wrap ((BitVec.ofInt 64 x &&& BitVec.ofInt 64 (m : Int)).toNat : Int) ≤ m
  have h2 : (BitVec.ofInt 64 (m : Int)).toNat = m := by rw [BitVec.ofInt_natCast, BitVec.toNat_ofNat]; exact Nat.mod_eq_of_lt (by omega)
  rw [BitVec.toNat_and, h2]
  have h3 : (BitVec.ofInt 64 x).toNat &&& m ≤ m := Nat.and_le_right
  rw [IntWalk.i64_in _ (by omega)]
  omega
def AbB (W : ByteArray) (n : Nat) : Prop := W.size = n ∧ ∀ k : Int, 0 ≤ k → k < n → btz W k = 97 ∨ btz W k = 98
theorem AbB.snoc {W : ByteArray} {n : Nat} (h : AbB W n) {u : UInt8} (hu : u = 97 ∨ u = 98) : AbB (W ++ ⟨#[u]⟩) (n + 1) := by
  obtain ⟨h1, h2⟩ := h
  refine ⟨by rw [ByteArray.size_append, h1]; rfl, fun k k0 k1 => ?_⟩
  obtain ⟨z, rfl⟩ : ∃ z : Nat, k = (z : Int) := ⟨k.toNat, by omega⟩
  unfold btz
  rw [dif_pos (by rw [ByteArray.size_append, h1]; show (z : Int).toNat < n + 1; omega)]
  simp only [Int.toNat_natCast]
  by_cases hz : z < n
  · have := h2 z k0 (by omega)
    unfold btz at this
    rw [dif_pos (by rw [h1]; omega)] at this
    simp only [Int.toNat_natCast] at this
    rw [ByteArray.getElem_append_left (by omega)]
    exact this
  · rw [ByteArray.getElem_append_right (by omega)]
    have e : z - W.size = 0 := by omega
    simp only [e]
    rcases hu with rfl | rfl
    · exact .inl rfl
    · exact .inr rfl
def AbRel (w : World) (n : Nat) (sv cnt : Value) (wr : World) : Prop := ∃ (i : Nat) (W : ByteArray), cnt = .int .i64 i ∧ sv = .string W ∧ i ≤ n ∧ i ≤ 12 ∧ AbB W i ∧ Below w.heap.size w wr
def CntRel (w : World) (W : ByteArray) (i j : Nat) (pv rv cnt : Value) (wr : World) : Prop :=
  ∃ (k : Nat) (p r : Bool), cnt = .int .i64 k ∧ pv = .bool p ∧ rv = .bool r ∧ i ≤ k ∧ k ≤ j ∧ Hid (p = true ↔ (((j : Int) - i) % 2 = 0 ∧ ∀ z : Int, i ≤ z → z < k → (btz W z = 97 ↔ z < i + ((j : Int) - i) / 2))) ∧
    Hid (r = true ↔ ((i : Int) < j ∧ ∀ z : Int, i ≤ z → z < k → btz W z = 97)) ∧ Below w.heap.size w wr
theorem cnt_p {W : ByteArray} {i j k : Nat} {p : Bool} {c : Int} (hc : c = btz W k) (hk : i ≤ k) (h : p = true ↔ (((j : Int) - i) % 2 = 0 ∧ ∀ z : Int, i ≤ z → z < k → (btz W z = 97 ↔ z < i + ((j : Int) - i) / 2))) :
    (p && ((c == 97) == decide ((k : Int) < i + ((j : Int) - i) / 2))) = true ↔ (((j : Int) - i) % 2 = 0 ∧ ∀ z : Int, i ≤ z → z < (k + 1 : Nat) → (btz W z = 97 ↔ z < i + ((j : Int) - i) / 2)) := by
  have e : ((c == 97) == decide ((k : Int) < i + ((j : Int) - i) / 2)) = true ↔ (btz W k = 97 ↔ (k : Int) < i + ((j : Int) - i) / 2) := by
    rw [hc, beq_iff_eq, Bool.eq_iff_iff, beq_iff_eq, decide_eq_true_iff]
  rw [Bool.and_eq_true, h, e]
  constructor
  · rintro ⟨⟨h1, h2⟩, h3⟩
    refine ⟨h1, fun z a b => ?_⟩
    by_cases hz : z = k
    · rw [hz]; exact h3
    · exact h2 z a (by omega)
  · rintro ⟨h1, h2⟩
    exact ⟨⟨h1, fun z a b => h2 z a (by omega)⟩, h2 k (by omega) (by omega)⟩
theorem cnt_r {W : ByteArray} {i j k : Nat} {r : Bool} {c : Int} (hc : c = btz W k) (hk : i ≤ k) (h : r = true ↔ ((i : Int) < j ∧ ∀ z : Int, i ≤ z → z < k → btz W z = 97)) :
    (r && (c == 97)) = true ↔ ((i : Int) < j ∧ ∀ z : Int, i ≤ z → z < (k + 1 : Nat) → btz W z = 97) := by
  rw [Bool.and_eq_true, h, hc, beq_iff_eq]
  constructor
  · rintro ⟨⟨h1, h2⟩, h3⟩
    refine ⟨h1, fun z a b => ?_⟩
    by_cases hz : z = k
    · rw [hz]; exact h3
    · exact h2 z a (by omega)
  · rintro ⟨h1, h2⟩
    exact ⟨⟨h1, fun z a b => h2 z a (by omega)⟩, h2 k (by omega) (by omega)⟩
/-- What the pairs' table answers of a row of 'a' and 'b'. -/
theorem pairs_count {w : World} {t : TS} {fin : Rk × Rk} (T : Tab w t fin) (tG : t.G = pairsG) (hab : ∀ k : Int, 0 ≤ k → k < t.W.size → btz t.W k = 97 ∨ btz t.W k = 98) {i j : Int} (i0 : 0 ≤ i) (ij : i ≤ j) (j1 : j ≤ t.W.size) :
    (0 < t.rank fin.1 0 i j ↔ PairsP (btz t.W) i j) ∧ (0 < t.rank fin.1 1 i j ↔ RunP (btz t.W) i j) := by
  have hK : t.K = 2 := by unfold TS.K; rw [tG]; rfl
  have V := T.view
  rw [tG, hK] at V
  have e0 : t.rank fin.1 ((0 : Nat) : Int) i j = fin.1 0 i j := rank_in (by omega) i0 ij j1
  have e1 : t.rank fin.1 ((1 : Nat) : Int) i j = fin.1 1 i j := rank_in (by omega) i0 ij j1
  simp only [Int.natCast_zero, Int.natCast_one] at e0 e1
  rw [e0, e1]
  exact ⟨pairs_iff V hab i0 ij j1, run_iff V i0 ij j1⟩
set_option maxRecDepth 100000 in
set_option maxHeartbeats 4000000 in
theorem pairsLaw_any {w : World} (s : ByteArray) (hs : s.size < 9223372036854775807) :
    Calls Try.prog 6 #[.string s] w fun e w' => e = .returned (.bool true) ∧ Below w.heap.size w w' := by
  go_enter Try.func6, Try.ntmps6
  go_wp2_with (first
    | (go_at_call 13; refine (awake_any _).mono ?_; rintro e w1 ⟨rfl, hb1⟩; have HB1 := Lib.hid hb1; clear hb1)
    | fail)
  go_loopw [3, 4] (fun sv cnt wr => AbRel w1 s.size sv cnt wr) (fun _ cnt _ => s.size - (intOf cnt).toNat)
  case atStart => exact ⟨0, ByteArray.empty, rfl, rfl, by omega, by omega, ⟨rfl, fun k a b => by omega⟩, below_refl _⟩
  case round =>
    obtain ⟨i, W, rfl, rfl, hi, hi12, hW, hb⟩ := hrel
    have HW := Lib.hid hW
    have HB := Lib.hid hb
    clear hb hW
    by_cases hin : i < s.size ∧ i < 12
    · obtain ⟨hlt, h12⟩ := hin
      have hd : ∃ (d : Nat) (u : UInt8), (d = 0 ∧ u = 97 ∨ d = 1 ∧ u = 98) ∧ bits BinOp.and .i64 (wrap64 ((s[i]'hlt).toNat : Int)) 1 = d := by
        obtain ⟨hm0, hm1⟩ := and_small (wrap64 ((s[i]'hlt).toNat : Int)) (m := 1) (by decide)
        by_cases h0 : bits BinOp.and .i64 (wrap64 ((s[i]'hlt).toNat : Int)) 1 = 0
        · exact ⟨0, 97, .inl ⟨rfl, rfl⟩, h0⟩
        · refine ⟨1, 98, .inr ⟨rfl, rfl⟩, ?_⟩
          simp only [Int.natCast_one] at hm0 hm1
          simp only [Int.natCast_one]
          omega
      obtain ⟨d, u, hdu, he⟩ := hd
      have hsz : (9223372036854775807 < W.size + 1) = False := by simp [HW.out.1]; omega
      rcases hdu with ⟨rfl, rfl⟩ | ⟨rfl, rfl⟩
      all_goals
        simp only [Int.natCast_zero, Int.natCast_one] at he
        go_wp2_with fail
        go_roundw
        case rel => exact ⟨i + 1, _, by go_num, rfl, by omega, by omega, HW.out.snoc (by decide), below_alloc' HB.out _⟩
        case measure => simp [intOf]; omega
    · by_cases hlt : i < s.size
      all_goals
        (try have h12 : i = 12 := by omega)
        have hW12 : W.size ≤ 12 := by rw [HW.out.1]; omega
        clear hin hi hi12
        go_wp2_with (first
          | (go_at_call 22; refine (pairs_any _).mono ?_; rintro e w3 ⟨hb3, A3, c3, A4, c4, rfl, n1, n2, n3, n4', n5, n6⟩; have HB3 := Lib.hid (below_then HB.out hb3); have CN := Lib.hid (new_whole pairsG W n1 n2 n3 n4' n5 n6); clear hb3 n1 n2 n3 n4' n5 n6)
          | (go_at_call 14; refine CN.out.mono ?_; intro e w4 hnew; obtain ⟨hb4, t, fin, rfl, tG, tW, hT⟩ := pairs_ok (by omega) hnew; have HB4 := Lib.hid (below_then HB1.out (below_then HB3.out hb4)); have T := Lib.hid hT; clear hb4 hnew hT CN)
          | (go_at_call 15; refine (num_any _ _).mono ?_; rintro e w4 ⟨rfl, rfl⟩)
          | fail)
        have TG := Lib.hid tG
        have hab := HW.out.2
        have hWi := HW.out.1
        subst tW
        rw [← hWi] at hab
        have HAB := Lib.hid hab
        clear hlt hab hWi
        go_loopw [7] (fun cnt wr => NumRel w4 (t.W.size + 1) cnt wr) (fun cnt _ => t.W.size + 1 - (intOf cnt).toNat)
        case atStart => exact ⟨0, rfl, Nat.zero_le _, below_refl _⟩
        case round =>
          obtain ⟨x, rfl, hx, hb⟩ := hrel
          have HB := Lib.hid hb
          clear hb
          by_cases hlt : x ≤ t.W.size
          · go_wp2_with fail
            go_loopw [8] (fun cnt wr' => TillRel w4 x t.W.size cnt wr') (fun cnt _ => t.W.size + 1 - (intOf cnt).toNat)
            case atStart => exact ⟨x, rfl, Nat.le_refl _, by omega, HB.out⟩
            case round =>
              clear HB
              obtain ⟨y, rfl, hxy, hy, hb⟩ := hrel
              have HB := Lib.hid hb
              clear hb
              by_cases hlty : y ≤ t.W.size
              · have hdv : ((y : Int) - x).tdiv 2 = ((y : Int) - x) / 2 := Int.tdiv_eq_ediv_of_nonneg (by omega)
                have hmd : ((y : Int) - x).tmod 2 = ((y : Int) - x) % 2 := Int.tmod_eq_emod_of_nonneg (by omega)
                go_wp2_with fail
                go_loopw [10, 11, 12] (fun pv rv cnt wr' => CntRel w4 t.W x y pv rv cnt wr') (fun _ _ cnt _ => y - (intOf cnt).toNat)
                case atStart =>
                  refine ⟨x, _, _, rfl, rfl, rfl, Nat.le_refl _, hxy, Lib.hid ?_, Lib.hid ?_, HB.out⟩
                  · rw [beq_iff_eq]; exact ⟨fun h => ⟨h, fun z a b => by omega⟩, fun h => h.1⟩
                  · rw [decide_eq_true_iff]; exact ⟨fun h => ⟨by omega, fun z a b => by omega⟩, fun h => by omega⟩
                case round =>
                  clear HB
                  obtain ⟨k, p, r, rfl, rfl, rfl, hxk, hky, HP, HR, hb⟩ := hrel
                  have HB := Lib.hid hb
                  clear hb
                  by_cases hltk : k < y
                  · have hkW : k < t.W.size := by omega
                    cases p <;> cases r
                    all_goals
                      go_wp2_with fail
                      have hbt := btz_at t.W k hkW
                      simp only [Int.toNat_natCast] at hbt
                      exact ⟨⟨k + 1, _, _, by go_num, rfl, rfl, by omega, by omega, Lib.hid (cnt_p hbt hxk HP.out), Lib.hid (cnt_r hbt hxk HR.out), HB.out⟩, by simp [intOf]; omega⟩
                  · have hke : k = y := by omega
                    subst hke
                    have hq := pairs_count T.out TG.out HAB.out (i := x) (j := k) (by omega) (by omega) (by omega)
                    have e0 : decide (0 < t.rank fin.1 0 x k) = p := by rw [Bool.eq_iff_iff, decide_eq_true_iff, hq.1, HP.out]; rfl
                    have e1 : decide (0 < t.rank fin.1 1 x k) = r := by rw [Bool.eq_iff_iff, decide_eq_true_iff, hq.2, HR.out]; rfl
                    have E0 := Lib.hid e0
                    have E1 := Lib.hid e1
                    have T5 := Lib.hid (T.out.below HB.out)
                    clear e0 e1 hq
                    have F0 := Lib.hid T.out.H.F
                    have HB5 := HB
                    clear HB
                    go_wp2_with (first
                      | (go_at_call 16; refine Calls.mono (has_any (by exact (show Hid (Tab _ t fin) by assumption).out.st) F0.out (by exact (show Hid (Tab _ t fin) by assumption).out.rw) _ _ _) ?_; rintro e w5 ⟨rfl, hb5⟩; (first | rw [E0.out] | rw [E1.out]); have T5 := Lib.hid ((show Hid (Tab _ t fin) by assumption).out.below hb5); have HB5 := Lib.hid (below_then (show Hid (Below w4.heap.size w4 _) by assumption).out hb5); clear hb5)
                      | fail)
                    go_roundw
                    case rel => exact ⟨k + 1, by go_num, by omega, by omega, HB5.out⟩
                    case measure => simp [intOf]; omega
              · have hje : y = t.W.size + 1 := by omega
                subst hje
                go_wp2_with fail
                go_roundw
                case rel => exact ⟨x + 1, by go_num, by omega, HB.out⟩
                case measure => simp [intOf]; omega
          · have hie : x = t.W.size + 1 := by omega
            subst hie
            go_wp2_with fail
            go_ret
            exact ⟨rfl, below_then HB4.out HB.out⟩
end Go.Proofs.Ytmccdakmdcdbeaa
