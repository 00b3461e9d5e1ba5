/-
  Q5: templelaw11.MeanForms answers true.
-/
import Derived.Test.YtmccdakmdcdbeaaQ4
set_option linter.unusedSimpArgs false
set_option linter.unusedVariables false
namespace Go.Proofs.Ytmccdakmdcdbeaa
open Go.RowKit

/-- A ring of one negation. -/
def ringG : Gram := ⟨0, [⟨#[83]⟩], [⟨0, [⟨true, [syS]⟩]⟩]⟩
theorem ring_cyc : NegCyc (edgesOf ringG) := by
  refine ⟨⟨0, 0, true⟩, ?_, rfl, ?_⟩
  · exact mem_edgesOf.2 ⟨_, List.mem_singleton.2 rfl, _, List.mem_singleton.2 rfl, _, List.mem_singleton.2 rfl, Int.le_refl _, rfl⟩
  · exact .refl _
def ringObjs (n : Nat) : List Obj := [
  .cells #[.string ⟨#[83]⟩] 9 (0, 0),
  symO [syS],
  .cells #[.bool true, .slice (some ⟨n + 1, 0, none⟩) 1 1] 48 (0, 0),
  .cells #[.int .i64 0, .slice (some ⟨n + 2, 0, none⟩) 1 1] 53 (0, 0)]
theorem ring_lie (w : World) : Rd.str.C (allocs w (ringObjs w.heap.size)) (some ⟨w.heap.size, 0, none⟩) ringG.names ∧ rulRd.C (allocs w (ringObjs w.heap.size)) (some ⟨w.heap.size + 3, 0, none⟩) ringG.rules := by
  have H : ∀ k o, (ringObjs w.heap.size)[k]? = some o → (allocs w (ringObjs w.heap.size)).heap[w.heap.size + k]? = some o := fun k o h => allocs_heap _ _ _ _ h
  generalize allocs w (ringObjs w.heap.size) = W at H
  have c1 := symO_C (H 1 _ rfl)
  have d2 : conjRd.C W (some ⟨w.heap.size + 2, 0, none⟩) [⟨true, [syS]⟩] := C_blk [[.bool true, .slice (some ⟨w.heap.size + 1, 0, none⟩) 1 1]] (H 2 _ rfl) rfl ⟨⟨conjRd_mk (x := ⟨true, [syS]⟩) (by decide) (by decide) c1, rfl⟩, trivial⟩
  constructor
  · exact C_blk [[.string ⟨#[83]⟩]] (H 0 _ rfl) rfl ⟨⟨rfl, rfl⟩, trivial⟩
  · exact C_blk [[.int .i64 0, .slice (some ⟨w.heap.size + 2, 0, none⟩) 1 1]] (H 3 _ rfl) rfl ⟨⟨rulRd_mk (x := ⟨0, [⟨true, [syS]⟩]⟩) (by decide) (by decide) d2, rfl⟩, trivial⟩
theorem new_ring {w : World} {W : ByteArray} {e : Ending} {w' : World} (h : NewIs w ringG W e w') : Below w.heap.size w w' ∧ e = .returned (.tuple #[.pointer none, .int .i64 1100]) := by
  obtain ⟨hb, ⟨-, h⟩ | ⟨-, h, -⟩⟩ := h
  · exact ⟨hb, h⟩
  · exact absurd ring_cyc h
/-- What New answers of the pairs and a row of zeros: a table, just if the row is not too long. -/
def ZPost (K : Nat) (e : Ending) : Prop := ∃ (p : Option Addr) (er : Int), e = .returned (.tuple #[.pointer p, .int .i64 er]) ∧ Hid ((K ≤ 32 ∧ er = 0 ∧ ∃ b, p = some ⟨b, 0, none⟩) ∨ (32 < K ∧ er = 1100 ∧ p = none))
theorem new_pairs_z {w : World} {K : Nat} {e : Ending} {w' : World} (h : NewIs w pairsG (zStr K) e w') : Below w.heap.size w w' ∧ ZPost K e := by
  by_cases hK : K ≤ 32
  · obtain ⟨hb, t, fin, he, -⟩ := pairs_ok (by rw [zStr_size]; exact hK) h
    exact ⟨hb, some ⟨t.p, 0, none⟩, 0, he, Lib.hid (.inl ⟨hK, rfl, t.p, rfl⟩)⟩
  · obtain ⟨hb, he⟩ := new_long (by rw [zStr_size]; omega) h
    exact ⟨hb, none, 1100, he, Lib.hid (.inr ⟨by omega, rfl, rfl⟩)⟩
theorem place_pairs {r c q : Int} (h : placeB pairsG.rules r c q = true) : 0 ≤ r ∧ r ≤ 3 ∧ 0 ≤ c ∧ c ≤ 1 ∧ 0 ≤ q ∧ q ≤ 3 := by
  obtain ⟨rn, cn, qn, x, y, rfl, rfl, rfl, hx, hy, hq⟩ := place_of h
  have hc := (List.getElem?_eq_some_iff.1 hy).1
  rcases pairs_rules hx with ⟨rfl, rfl⟩ | ⟨rfl, rfl⟩ | ⟨rfl, rfl⟩ | ⟨rfl, rfl⟩
  · match cn, hy with
    | 0, hy => injection hy with hy; subst hy; change qn ≤ 3 at hq; omega
    | 1, hy => injection hy with hy; subst hy; change qn ≤ 1 at hq; omega
    | n + 2, hy => change n + 2 < 2 at hc; omega
  · match cn, hy with
    | 0, hy => injection hy with hy; subst hy; change qn ≤ 0 at hq; omega
    | n + 1, hy => change n + 1 < 1 at hc; omega
  · match cn, hy with
    | 0, hy => injection hy with hy; subst hy; change qn ≤ 1 at hq; omega
    | n + 1, hy => change n + 1 < 1 at hc; omega
  · match cn, hy with
    | 0, hy => injection hy with hy; subst hy; change qn ≤ 2 at hq; omega
    | n + 1, hy => change n + 1 < 1 at hc; omega
theorem pairs_rr0 {t : TS} {PL : Rk} (tG : t.G = pairsG) {r c q i j : Int} (h : r < 0 ∨ 3 < r ∨ c < 0 ∨ 1 < c ∨ q < 0 ∨ 3 < q) : t.rrank PL r c q i j = 0 := by
  unfold TS.rrank
  rw [tG, if_neg]
  intro h1
  rw [Bool.and_eq_true] at h1
  have := place_pairs h1.1
  omega
theorem ab_bytes : ∀ k : Int, 0 ≤ k → k < ab.size → btz ab k = 97 ∨ btz ab k = 98 := by
  intro k k0 k1
  have : k = 0 ∨ k = 1 := by have : ab.size = 2 := rfl; omega
  rcases this with rfl | rfl
  · exact .inl rfl
  · exact .inr rfl
theorem ab_pairs : PairsP (btz ab) 0 2 := by
  refine ⟨by decide, fun k a b => ?_⟩
  have : k = 0 ∨ k = 1 := by omega
  rcases this with rfl | rfl
  · exact ⟨fun _ => by decide, fun _ => rfl⟩
  · exact ⟨fun h => absurd h (by decide), fun h => by omega⟩
set_option maxRecDepth 100000 in
set_option maxHeartbeats 4000000 in
theorem forms_any {w : World} (size x : Int) :
    Calls Try.prog 9 #[.int .i64 size, .int .i64 x] w fun e w' => e = .returned (.bool true) ∧ Below w.heap.size w w' := by
  obtain ⟨k, hk, hkb⟩ : ∃ k : Nat, bits BinOp.and .i64 size 7 = k ∧ k ≤ 7 := by
    obtain ⟨h0, h1⟩ := and_small size (m := 7) (by decide)
    have e7 : ((7 : Nat) : Int) = 7 := rfl
    rw [e7] at h0 h1
    exact ⟨(bits BinOp.and .i64 size 7).toNat, by omega, by omega⟩
  obtain ⟨d, hd, hdb⟩ : ∃ k : Nat, bits BinOp.and .i64 x 63 = k ∧ k ≤ 63 := by
    obtain ⟨h0, h1⟩ := and_small x (m := 63) (by decide)
    have e7 : ((63 : Nat) : Int) = 63 := rfl
    rw [e7] at h0 h1
    exact ⟨(bits BinOp.and .i64 x 63).toNat, by omega, by omega⟩
  go_enter Try.func9, Try.ntmps9
  go_wp2_with (first
    | (go_at_call 13; refine (awake_any _).mono ?_; rintro e w1 ⟨rfl, hb1⟩; have HB1 := Lib.hid hb1; clear hb1)
    | fail)
  obtain ⟨K, hK, hKb⟩ : ∃ K : Nat, (30 : Int) + k = K ∧ K ≤ 37 := ⟨30 + k, by omega, by omega⟩
  rw [hK]
  clear hk hK hkb
  have hmk := mkb_run K (by omega)
  have hcv : ∀ W : World, (convert 51 9 (.slice (some ⟨W.heap.size, 0, none⟩) K K)).run Try.prog (W.alloc (zObj K)) = .ok (.string (zStr K)) (W.alloc (zObj K)) := fun W => conv_run (heap_alloc_new W _)
  have hcv2 : ∀ W : World, (convert 51 9 (.slice (some ⟨W.heap.size, 0, none⟩) K K)).run Try.prog (W.alloc (zObj K)).drew = .ok (.string (zStr K)) (W.alloc (zObj K)).drew := fun W => conv_run (w := (W.alloc (zObj K)).drew) (heap_alloc_new W _)
  go_region_with (first
    | (go_at_call 22; refine (pairs_any _).mono ?_; rintro e w3 ⟨hb3, A3, c3, A4, c4, rfl, n1, n2, n3, n4', n5, n6⟩; (try (first | have zz := conv_run (blk_below (heap_alloc_new w1 (zObj K)) hb3) | have zz := conv_run (blk_below (w := (w1.alloc (zObj K)).drew) (heap_alloc_new w1 (zObj K)) hb3) | have zz := conv_run (blk_below (w := (w1.drew.alloc (zObj K)).drew) (heap_alloc_new w1.drew (zObj K)) hb3) | have zz := conv_run (blk_below (w := (w1.drew.alloc (zObj K))) (heap_alloc_new w1.drew (zObj K)) hb3))); have HB3 := Lib.hid (below_then (by repeat (first | exact HB1.out | apply below_alloc' | apply below_drew')) hb3); have N1 := Lib.hid n1; have N2 := Lib.hid n2; have N3 := Lib.hid n3; have N4 := Lib.hid n4'; have N5 := Lib.hid n5; have N6 := Lib.hid n6; clear hb3 n1 n2 n3 n4' n5 n6)
    | (go_at_call 14; refine (new_whole pairsG (zStr K) N1.out N2.out (N3.out.mono (by repeat (first | exact below_refl _ | apply below_alloc' | apply below_drew'))) N4.out N5.out (N6.out.mono (by repeat (first | exact below_refl _ | apply below_alloc' | apply below_drew')))).mono ?_; intro e w4 hnew; obtain ⟨hb4, hlk⟩ := new_pairs_z hnew; obtain ⟨op, er, rfl, ho1⟩ := hlk; have HB4 := Lib.hid (below_then (by repeat (first | exact HB3.out | apply below_alloc' | apply below_drew')) hb4); clear hb4 hnew)
    | fail)
  all_goals
    clear hmk hcv hcv2
    have HO := Lib.hid ho1
    clear ho1
    have R := Lib.hid (ring_lie w4)
    have hb5 : Below w4.heap.size w4 (allocs w4 (ringObjs w4.heap.size)) := allocs_below _ (below_refl w4)
    have HB5 := Lib.hid (below_then HB4.out hb5)
    clear hb5 HB3
    rcases HO.out with ⟨hK32, rfl, b, rfl⟩ | ⟨hK32, rfl, rfl⟩
    all_goals
      go_wp2_with fail
      refine Calls.mono (new_whole (w := allocs w4 (ringObjs w4.heap.size)) ringG ⟨#[]⟩ (by decide) (by decide) R.out.1 (by decide) (by decide) R.out.2) ?_
      intro e w6 hnew
      obtain ⟨hb6, rfl⟩ := new_ring hnew
      have HB6 := Lib.hid (below_then HB5.out hb6)
      clear hb6 hnew R
      go_wp2_with (first
        | (go_at_call 15; refine (num_any _ _).mono ?_; rintro e w6 ⟨rfl, rfl⟩)
        | (go_at_call 22; refine (pairs_any _).mono ?_; rintro e w7 ⟨hb7, A1, c1, A2, c2, rfl, n1, n2, n3, n4', n5, n6⟩; have HB7 := Lib.hid (below_then HB6.out hb7); have CN := Lib.hid (new_whole pairsG ab n1 n2 n3 n4' n5 n6); clear hb7 n1 n2 n3 n4' n5 n6)
        | fail)
      refine CN.out.mono ?_
      intro e w8 hnew
      obtain ⟨hb8, t, fin, rfl, tG, tW, hT⟩ := pairs_ok (by decide) hnew
      have HB8 := Lib.hid (below_then HB7.out hb8)
      have T8 := Lib.hid hT
      have F0 := Lib.hid hT.H.F
      have TG := Lib.hid tG
      have TW := Lib.hid tW
      have f1 : decide (0 < t.rank fin.1 0 0 2) = true := by
        have := (pairs_count hT tG (by rw [tW]; exact ab_bytes) (i := 0) (j := 2) (by decide) (by decide) (by rw [tW]; decide)).1
        rw [decide_eq_true_iff, this, tW]
        exact ab_pairs
      have f2 : ∀ k i j : Int, ¬ (0 ≤ k ∧ k < 2 ∧ 0 ≤ i ∧ i ≤ j ∧ j ≤ 2) → t.rank fin.1 k i j = 0 := fun k i j h => rank_out (by
        have e1 : t.K = 2 := by unfold TS.K; rw [tG]; rfl
        have e2 : t.W.size = 2 := by rw [tW]; rfl
        rw [e1, e2]; omega)
      have F1 := Lib.hid f1
      have F2 := Lib.hid f2
      have d0 : decide ((0 : Int) < 0) = false := rfl
      clear hb8 hnew hT tG tW CN HB6 HB7 f1 f2
      go_wp2_with (first
        | (go_at_call 15; refine (num_any _ _).mono ?_; rintro e w8 ⟨rfl, rfl⟩)
        | (go_at_call 16; refine Calls.mono (has_any (by exact (show Hid (Tab _ t fin) by assumption).out.st) F0.out (by exact (show Hid (Tab _ t fin) by assumption).out.rw) _ _ _) ?_; rintro e w5 ⟨rfl, hb5⟩; (first | rw [F1.out] | rw [F2.out _ _ _ (by omega), d0]); have T8 := Lib.hid ((show Hid (Tab _ t fin) by assumption).out.below hb5); have HB8 := Lib.hid (below_then (show Hid (Below w.heap.size w _) by assumption).out hb5); clear hb5)
        | (go_at_call 19; refine Calls.mono (rank_any (by exact (show Hid (Tab _ t fin) by assumption).out.st) F0.out (by exact (show Hid (Tab _ t fin) by assumption).out.rw) _ _ _) ?_; rintro e w5 ⟨rfl, hb5⟩; rw [F2.out _ _ _ (by omega)]; have T8 := Lib.hid ((show Hid (Tab _ t fin) by assumption).out.below hb5); have HB8 := Lib.hid (below_then (show Hid (Below w.heap.size w _) by assumption).out hb5); clear hb5)
        | (go_at_call 24; refine Calls.mono (restHas_any (by exact (show Hid (Tab _ t fin) by assumption).out.st) F0.out (by exact (show Hid (Tab _ t fin) by assumption).out.rw) _ _ _ _ _) ?_; rintro e w5 ⟨rfl, hb5⟩; rw [pairs_rr0 TG.out (by omega), d0]; have T8 := Lib.hid ((show Hid (Tab _ t fin) by assumption).out.below hb5); have HB8 := Lib.hid (below_then (show Hid (Below w.heap.size w _) by assumption).out hb5); clear hb5)
        | (go_at_call 25; refine Calls.mono (restRank_any (by exact (show Hid (Tab _ t fin) by assumption).out.st) F0.out (by exact (show Hid (Tab _ t fin) by assumption).out.rw) _ _ _ _ _) ?_; rintro e w5 ⟨rfl, hb5⟩; rw [pairs_rr0 TG.out (by omega)]; have T8 := Lib.hid ((show Hid (Tab _ t fin) by assumption).out.below hb5); have HB8 := Lib.hid (below_then (show Hid (Below w.heap.size w _) by assumption).out hb5); clear hb5)
        | fail)
      go_ret
      exact ⟨rfl, HB8.out⟩
end Go.Proofs.Ytmccdakmdcdbeaa
