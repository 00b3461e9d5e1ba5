/-
  K1: templelaw11.Pairs, templelaw0.Num.
  K2: templelaw11.awake: it answers true.
-/
import Derived.Test.YtbknkhcdfjiehaaGreatA4
import Derived.Test.YtbknkhcdfjiehaaGreatP7
import Derived.Test.YtbknkhcdfjiehaaGreatP9
import Derived.Test.YtbknkhcdfjiehaaGreatMc
import Derived.Laws.IdiomStrings
set_option linter.unusedSimpArgs false
set_option linter.unusedVariables false
namespace Go.Proofs.YtbknkhcdfjiehaaGreat
open Go.RowKit

def pairsObjs (n : Nat) : List Obj := [
  .cells #[.int .i64 0, .slice (some ⟨n + 5, 0, none⟩) 2 2, .slice (some ⟨n + 14, 0, none⟩) 4 4] 25 (0, 0),
  symO [syA], symO [syB], symO [syS], symO [syX],
  .cells #[.string ⟨#[83]⟩, .string ⟨#[88]⟩] 9 (0, 0),
  symO [syA, syS, syB], symO [syX],
  .cells #[.bool false, .slice (some ⟨n + 6, 0, none⟩) 3 3, .bool true, .slice (some ⟨n + 7, 0, none⟩) 1 1] 53 (0, 0),
  .cells #[.bool false, .slice none 0 0] 53 (0, 0),
  symO [syA],
  .cells #[.bool false, .slice (some ⟨n + 10, 0, none⟩) 1 1] 53 (0, 0),
  symO [syX, syX],
  .cells #[.bool false, .slice (some ⟨n + 12, 0, none⟩) 2 2] 53 (0, 0),
  .cells #[.int .i64 0, .slice (some ⟨n + 8, 0, none⟩) 2 2, .int .i64 0, .slice (some ⟨n + 9, 0, none⟩) 1 1, .int .i64 1, .slice (some ⟨n + 11, 0, none⟩) 1 1, .int .i64 1, .slice (some ⟨n + 13, 0, none⟩) 1 1] 50 (0, 0)]
theorem pairs_lie (w : World) : Rd.str.C (allocs w (pairsObjs w.heap.size)) (some ⟨w.heap.size + 5, 0, none⟩) pairsG.names ∧ rulRd.C (allocs w (pairsObjs w.heap.size)) (some ⟨w.heap.size + 14, 0, none⟩) pairsG.rules := by
  have H : ∀ k o, (pairsObjs w.heap.size)[k]? = some o → (allocs w (pairsObjs w.heap.size)).heap[w.heap.size + k]? = some o := fun k o h => allocs_heap _ _ _ _ h
  generalize allocs w (pairsObjs w.heap.size) = W at H
  have c6 := symO_C (H 6 _ rfl)
  have c7 := symO_C (H 7 _ rfl)
  have c10 := symO_C (H 10 _ rfl)
  have c12 := symO_C (H 12 _ rfl)
  have d8 : conjRd.C W (some ⟨w.heap.size + 8, 0, none⟩) [⟨false, [syA, syS, syB]⟩, ⟨true, [syX]⟩] := C_blk [[.bool false, .slice (some ⟨w.heap.size + 6, 0, none⟩) 3 3], [.bool true, .slice (some ⟨w.heap.size + 7, 0, none⟩) 1 1]] (H 8 _ rfl) rfl ⟨⟨conjRd_mk (x := ⟨false, [syA, syS, syB]⟩) (by decide) (by decide) c6, rfl⟩, ⟨conjRd_mk (x := ⟨true, [syX]⟩) (by decide) (by decide) c7, rfl⟩, trivial⟩
  have d9 : conjRd.C W (some ⟨w.heap.size + 9, 0, none⟩) [⟨false, []⟩] := C_blk [[.bool false, .slice none 0 0]] (H 9 _ rfl) rfl ⟨⟨conjRd_mk (x := ⟨false, []⟩) (by decide) (by decide) (Rd.C.nil _ _ _), rfl⟩, trivial⟩
  have d11 : conjRd.C W (some ⟨w.heap.size + 11, 0, none⟩) [⟨false, [syA]⟩] := C_blk [[.bool false, .slice (some ⟨w.heap.size + 10, 0, none⟩) 1 1]] (H 11 _ rfl) rfl ⟨⟨conjRd_mk (x := ⟨false, [syA]⟩) (by decide) (by decide) c10, rfl⟩, trivial⟩
  have d13 : conjRd.C W (some ⟨w.heap.size + 13, 0, none⟩) [⟨false, [syX, syX]⟩] := C_blk [[.bool false, .slice (some ⟨w.heap.size + 12, 0, none⟩) 2 2]] (H 13 _ rfl) rfl ⟨⟨conjRd_mk (x := ⟨false, [syX, syX]⟩) (by decide) (by decide) c12, rfl⟩, trivial⟩
  constructor
  · exact C_blk [[.string ⟨#[83]⟩], [.string ⟨#[88]⟩]] (H 5 _ rfl) rfl ⟨⟨rfl, rfl⟩, ⟨rfl, rfl⟩, trivial⟩
  · exact C_blk [[.int .i64 0, .slice (some ⟨w.heap.size + 8, 0, none⟩) 2 2], [.int .i64 0, .slice (some ⟨w.heap.size + 9, 0, none⟩) 1 1], [.int .i64 1, .slice (some ⟨w.heap.size + 11, 0, none⟩) 1 1], [.int .i64 1, .slice (some ⟨w.heap.size + 13, 0, none⟩) 1 1]] (H 14 _ rfl) rfl
      ⟨⟨rulRd_mk (x := ⟨0, [⟨false, [syA, syS, syB]⟩, ⟨true, [syX]⟩]⟩) (by decide) (by decide) d8, rfl⟩, ⟨rulRd_mk (x := ⟨0, [⟨false, []⟩]⟩) (by decide) (by decide) d9, rfl⟩, ⟨rulRd_mk (x := ⟨1, [⟨false, [syA]⟩]⟩) (by decide) (by decide) d11, rfl⟩, ⟨rulRd_mk (x := ⟨1, [⟨false, [syX, syX]⟩]⟩) (by decide) (by decide) d13, rfl⟩, trivial⟩
set_option maxRecDepth 100000 in
set_option maxHeartbeats 2000000 in
theorem pairs_any (w : World) : Calls Tryz.prog 28 #[] w (GramPost w pairsG) := by
  go_enter Tryz.func28, Tryz.ntmps28
  go_wp2_with fail
  refine bodyPost_ret (v := .agg #[.int .i64 0, .slice (some ⟨w.heap.size + 5, 0, none⟩) 2 2, .slice (some ⟨w.heap.size + 14, 0, none⟩) 4 4]) (by simp [results, Tryz.results28, go_sem]) rfl ?_
  change GramPost w pairsG _ (allocs w (pairsObjs w.heap.size))
  obtain ⟨h1, h2⟩ := pairs_lie w
  exact ⟨allocs_below _ (below_refl w), _, 2, _, 4, rfl, by decide, by decide, h1, by decide, by decide, h2⟩
end Go.Proofs.YtbknkhcdfjiehaaGreat

set_option linter.unusedSimpArgs false
set_option linter.unusedVariables false
namespace Go.Proofs.YtbknkhcdfjiehaaGreat
open Go.RowKit

/-- A table as it lies, with what it holds. -/
structure Tab (w : World) (t : TS) (fin : Rk × Rk) : Prop where
  H : Law t
  st : Stat w t
  rw : Rows w t fin.1 fin.2
  sol : Sol t fin
theorem Tab.below {w w' : World} {t : TS} {fin : Rk × Rk} (T : Tab w t fin) (h : Below w.heap.size w w') : Tab w' t fin := ⟨T.H, T.st.below h, T.rw.below h, T.sol⟩
theorem pairs_may : mayB pairsG = true := by decide +kernel
theorem pairs_edges : edgesOf pairsG = [⟨0, 0, false⟩, ⟨0, 1, true⟩, ⟨1, 1, false⟩, ⟨1, 1, false⟩] := by rfl
theorem pairs_cyc : ¬ NegCyc (edgesOf pairsG) := by
  rintro ⟨e, he, h1, h2⟩
  have hE : EdgesIn 2 (edgesOf pairsG) := edgesIn_of (mayG pairs_may)
  have h3 := (reachB_iff hE (hE e he).2).2 h2
  rw [pairs_edges] at he h3
  simp only [List.mem_cons, List.mem_nil_iff, or_false] at he
  rcases he with rfl | rfl | rfl | rfl
  · cases h1
  · revert h3; decide
  · cases h1
  · cases h1
theorem pairs_ok {w : World} {W : ByteArray} {e : Ending} {w' : World} (hW : W.size ≤ 32) (h : NewIs w pairsG W e w') : Below w.heap.size w w' ∧ ∃ (t : TS) (fin : Rk × Rk), e = .returned (.tuple #[.pointer (some ⟨t.p, 0, none⟩), .int .i64 0]) ∧ t.G = pairsG ∧ t.W = W ∧ Tab w' t fin := by
  obtain ⟨hb, ⟨h1 | h1, -⟩ | ⟨-, -, -, t, fin, H, tG, tW, he, S, R, Z⟩⟩ := h
  · exfalso
    rcases h1 with h1 | h1
    · rw [pairs_may] at h1; cases h1
    · exact pairs_cyc h1
  · omega
  · exact ⟨hb, t, fin, he, tG, tW, H, S, R, Z⟩
theorem new_long {w : World} {G : Gram} {W : ByteArray} {e : Ending} {w' : World} (hW : 32 < W.size) (h : NewIs w G W e w') : Below w.heap.size w w' ∧ e = .returned (.tuple #[.pointer none, .int .i64 1100]) := by
  obtain ⟨hb, ⟨-, h⟩ | ⟨-, -, h, -⟩⟩ := h
  · exact ⟨hb, h⟩
  · omega
/-- What the pairs' table over "aabb" answers. -/
theorem pairs_aabb {t : TS} {fin : Rk × Rk} (H : Law t) (S : Sol t fin) (tG : t.G = pairsG) (tW : t.W = aabb) :
    (∀ (h : Nat) (i j : Int), h < 2 → 0 ≤ i → i ≤ j → j ≤ 4 → fin.1 h i j = tabN n4 h i j) ∧ (∀ (r : Nat) (x : Rul) (c : Nat) (y : Conj) (pos : Nat) (i j : Int), pairsG.rules[r]? = some x → x.conj[c]? = some y → pos ≤ y.seq.length → 0 ≤ i → i ≤ j → j ≤ 4 → fin.2 (t.off r c + pos) i j = tabP p4 r c pos i j) := by
  have V := S.view H (rs := pairsG.rules) (K := 2) (δ := 0) (hi := 4) (fun r x h => by rw [tG]; exact h) (by unfold TS.K; rw [tG]; decide) (fun r x h _ => by rw [tG] at h; exact h) (Int.le_refl _) (by rw [tW]; decide)
  rw [tW] at V
  have h := pairs_eq V view_aabb (fun _ _ _ => rfl)
  simpa using h
theorem rank_in {t : TS} {NM : Rk} {k : Nat} {i j : Int} (hk : k < t.K) (i0 : 0 ≤ i) (ij : i ≤ j) (j1 : j ≤ t.W.size) : t.rank NM k i j = NM k i j := by
  unfold TS.rank nameK spanB
  have h1 : (decide ((0 : Int) ≤ (k : Int)) && decide ((k : Int) < t.K) && (decide (0 ≤ i) && decide (i ≤ j) && decide (j ≤ t.W.size))) = true := by simp; omega
  rw [if_pos h1, Int.toNat_natCast]
theorem rank_out {t : TS} {NM : Rk} {k i j : Int} (h : ¬ (0 ≤ k ∧ k < t.K ∧ 0 ≤ i ∧ i ≤ j ∧ j ≤ t.W.size)) : t.rank NM k i j = 0 := by
  unfold TS.rank nameK spanB
  rw [if_neg]
  simp only [Bool.and_eq_true, decide_eq_true_eq]
  omega
theorem rrank_in {t : TS} {PL : Rk} {r c pos : Nat} {x : Rul} {y : Conj} {i j : Int} (p : Pl t r c pos x y) (i0 : 0 ≤ i) (ij : i ≤ j) (j1 : j ≤ t.W.size) : t.rrank PL r c pos i j = PL (t.off r c + pos) i j := by
  have hp := p.hp
  have h1 : placeB t.G.rules r c pos = true := by
    unfold placeB
    simp only [Int.toNat_natCast, p.hx, p.hy, Bool.and_eq_true, decide_eq_true_eq]
    omega
  have h2 : spanB t i j = true := by
    unfold spanB
    simp only [Bool.and_eq_true, decide_eq_true_eq]
    omega
  unfold TS.rrank
  rw [h1, h2]
  simp
theorem pairs_says {t : TS} {fin : Rk × Rk} (H : Law t) (S : Sol t fin) (tG : t.G = pairsG) (tW : t.W = aabb) :
    t.rank fin.1 0 0 4 = 8 ∧ t.rank fin.1 0 1 3 = 5 ∧ t.rank fin.1 0 0 3 = 0 ∧ t.rank fin.1 1 0 2 = 6 ∧ t.rank fin.1 1 0 3 = 0 ∧ t.rank fin.1 0 2 2 = 2 ∧ t.rank fin.1 1 0 1 = 3 ∧ t.rank fin.1 9 0 0 = 0 ∧ t.rrank fin.2 2 0 1 2 2 = 1 ∧ t.rrank fin.2 2 0 0 0 1 = 2 := by
  obtain ⟨hN, hP⟩ := pairs_aabb H S tG tW
  have hK : t.K = 2 := by unfold TS.K; rw [tG]; rfl
  have hW : t.W.size = 4 := by rw [tW]; rfl
  have n : ∀ (k : Nat) (i j v : Int), k < 2 → 0 ≤ i → i ≤ j → j ≤ 4 → tabN n4 k i j = v → t.rank fin.1 k i j = v := fun k i j v hk i0 ij j1 e => by
    rw [rank_in (by omega) i0 ij (by omega), hN k i j hk i0 ij j1, e]
  have x2 : t.G.rules[2]? = some ⟨1, [⟨false, [syA]⟩]⟩ := by rw [tG]; rfl
  refine ⟨n 0 0 4 8 (by decide) (by decide) (by decide) (by decide) rfl, n 0 1 3 5 (by decide) (by decide) (by decide) (by decide) rfl, n 0 0 3 0 (by decide) (by decide) (by decide) (by decide) rfl, n 1 0 2 6 (by decide) (by decide) (by decide) (by decide) rfl, n 1 0 3 0 (by decide) (by decide) (by decide) (by decide) rfl, n 0 2 2 2 (by decide) (by decide) (by decide) (by decide) rfl, n 1 0 1 3 (by decide) (by decide) (by decide) (by decide) rfl, rank_out (by rw [hK]; omega), ?_, ?_⟩
  · have h := rrank_in (PL := fin.2) (r := 2) (c := 0) (pos := 1) (i := 2) (j := 2) ⟨x2, rfl, by decide⟩ (by decide) (by decide) (by rw [hW]; decide)
    refine Eq.trans h ?_
    rw [hP 2 _ 0 _ 1 2 2 (by rw [← tG]; exact x2) rfl (by decide) (by decide) (by decide) (by decide)]
    rfl
  · have h := rrank_in (PL := fin.2) (r := 2) (c := 0) (pos := 0) (i := 0) (j := 1) ⟨x2, rfl, by decide⟩ (by decide) (by decide) (by rw [hW]; decide)
    refine Eq.trans h ?_
    rw [hP 2 _ 0 _ 0 0 1 (by rw [← tG]; exact x2) rfl (by decide) (by decide) (by decide) (by decide)]
    rfl
def z33 : ByteArray := ⟨(List.replicate 33 (0 : UInt8)).toArray⟩
set_option maxRecDepth 100000 in
set_option maxHeartbeats 4000000 in
theorem awake_any (w : World) : Calls Tryz.prog 9 #[] w fun e w' => e = .returned (.bool true) ∧ Below w.heap.size w w' := by
  go_enter Tryz.func9, Tryz.ntmps9
  go_wp2_with (first
    | (go_at_call 28; refine (pairs_any _).mono ?_; rintro e w1 ⟨hb1, A1, c1, A2, c2, rfl, n1, n2, n3, n4', n5, n6⟩; have HB1 := Lib.hid hb1; have CN := Lib.hid (new_whole pairsG aabb n1 n2 n3 n4' n5 n6); clear hb1 n1 n2 n3 n4' n5 n6)
    | (go_at_call 5; refine CN.out.mono ?_; intro e w2 hnew; obtain ⟨hb2, t, fin, rfl, tG, tW, hT⟩ := pairs_ok (by decide) hnew; have HB2 := Lib.hid (below_then HB1.out hb2); have T := Lib.hid hT; have TG := Lib.hid tG; have TW := Lib.hid tW; clear hb2 hnew hT tG tW))
  have hmk := mkb_run 33 (by decide)
  have hcv : ∀ W : World, (convert 69 9 (.slice (some ⟨W.heap.size, 0, none⟩) 33 33)).run Tryz.prog (W.alloc (zObj 33)) = .ok (.string (zStr 33)) (W.alloc (zObj 33)) := fun W => conv_run (heap_alloc_new W _)
  have hcv2 : ∀ W : World, (convert 69 9 (.slice (some ⟨W.heap.size, 0, none⟩) 33 33)).run Tryz.prog (W.alloc (zObj 33)).drew = .ok (.string (zStr 33)) (W.alloc (zObj 33)).drew := fun W => conv_run (w := (W.alloc (zObj 33)).drew) (heap_alloc_new W _)
  simp only [Int.cast_ofNat_Int] at hmk
  clear CN
  go_region_with (first
    | (go_at_call 28; refine (pairs_any _).mono ?_; rintro e w3 ⟨hb3, A3, c3, A4, c4, rfl, n1, n2, n3, n4', n5, n6⟩; (try (first | have zz := conv_run (blk_below (heap_alloc_new w2 (zObj 33)) hb3) | have zz := conv_run (blk_below (w := (w2.alloc (zObj 33)).drew) (heap_alloc_new w2 (zObj 33)) hb3) | have zz := conv_run (blk_below (w := (w2.drew.alloc (zObj 33)).drew) (heap_alloc_new w2.drew (zObj 33)) hb3) | have zz := conv_run (blk_below (w := (w2.drew.alloc (zObj 33))) (heap_alloc_new w2.drew (zObj 33)) hb3))); have HB3 := Lib.hid (below_then (by repeat (first | exact HB2.out | apply below_alloc' | apply below_drew')) hb3); have T3 := Lib.hid (T.out.below (below_then (by repeat (first | exact below_refl _ | apply below_alloc' | apply below_drew')) hb3)); have N1 := Lib.hid n1; have N2 := Lib.hid n2; have N3 := Lib.hid n3; have N4 := Lib.hid n4'; have N5 := Lib.hid n5; have N6 := Lib.hid n6; clear hb3 n1 n2 n3 n4' n5 n6)
    | (go_at_call 5; refine (new_whole pairsG (zStr 33) N1.out N2.out (N3.out.mono (by repeat (first | exact below_refl _ | apply below_alloc' | apply below_drew'))) N4.out N5.out (N6.out.mono (by repeat (first | exact below_refl _ | apply below_alloc' | apply below_drew')))).mono ?_; intro e w4 hnew; obtain ⟨hb4, rfl⟩ := new_long (by rw [zStr_size]; decide) hnew; have HB4 := Lib.hid (below_then (by repeat (first | exact HB3.out | apply below_alloc' | apply below_drew')) hb4); have T4 := Lib.hid (T3.out.below (below_then (by repeat (first | exact below_refl _ | apply below_alloc' | apply below_drew')) hb4)); clear hb4 hnew)
    | fail)
  all_goals
    clear hmk hcv hcv2
    obtain ⟨f1, f2, f3, f4, f5, f6, f7, f8, f9, f10⟩ := pairs_says T4.out.H T4.out.sol TG.out TW.out
    go_simp
    go_wp2_with (first
      | (go_at_call 8; refine (num_any _ _).mono ?_; rintro e w' ⟨rfl, rfl⟩)
      | (go_at_call 12; refine (has_any T4.out.st T4.out.H.F T4.out.rw _ _ _).mono ?_; rintro e w' ⟨rfl, hb5⟩; (first | rw [f1] | rw [f2] | rw [f3] | rw [f4] | rw [f5] | rw [f6] | rw [f8]); have HB4 := Lib.hid (below_then HB4.out hb5); have T4 := Lib.hid (T4.out.below hb5); clear hb5)
      | (go_at_call 14; refine (rank_any T4.out.st T4.out.H.F T4.out.rw _ _ _).mono ?_; rintro e w' ⟨rfl, hb5⟩; (first | rw [f6] | rw [f7] | rw [f5]); have HB4 := Lib.hid (below_then HB4.out hb5); have T4 := Lib.hid (T4.out.below hb5); clear hb5)
      | (go_at_call 16; refine (restHas_any T4.out.st T4.out.H.F T4.out.rw _ _ _ _ _).mono ?_; rintro e w' ⟨rfl, hb5⟩; rw [f9]; have HB4 := Lib.hid (below_then HB4.out hb5); have T4 := Lib.hid (T4.out.below hb5); clear hb5)
      | (go_at_call 18; refine (restRank_any T4.out.st T4.out.H.F T4.out.rw _ _ _ _ _).mono ?_; rintro e w' ⟨rfl, hb5⟩; rw [f10]; have HB4 := Lib.hid (below_then HB4.out hb5); have T4 := Lib.hid (T4.out.below hb5); clear hb5))
    go_ret
    exact ⟨rfl, HB4.out⟩
end Go.Proofs.YtbknkhcdfjiehaaGreat
