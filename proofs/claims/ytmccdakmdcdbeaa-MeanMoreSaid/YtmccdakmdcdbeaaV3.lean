/-
  V3: templelaw11.MeanSigns answers true.
-/
import Derived.Test.YtmccdakmdcdbeaaV2
set_option linter.unusedSimpArgs false
set_option linter.unusedVariables false
namespace Go.Proofs.Ytmccdakmdcdbeaa
open Go.RowKit

/-- What New hands back, in words that no walk tears open. -/
def NewRes (G : Gram) (W : ByteArray) (p : Option Addr) (er : Int) (w' : World) : Prop :=
  (p = none ∧ er = 1100 ∧ (RefG G ∨ 32 < W.size)) ∨ (er = 0 ∧ mayB G = true ∧ ∃ (t : TS) (fin : Rk × Rk), p = some ⟨t.p, 0, none⟩ ∧ t.G = G ∧ t.W = W ∧ Tab w' t fin)
theorem new_res {w : World} {G : Gram} {W : ByteArray} {e : Ending} {w' : World} (h : NewIs w G W e w') : Below w.heap.size w w' ∧ ∃ p er, e = .returned (.tuple #[.pointer p, .int .i64 er]) ∧ Hid (NewRes G W p er w') := by
  obtain ⟨hb, ⟨h1, rfl⟩ | ⟨hm, -, -, t, fin, hL, tG, tW, rfl, hS, hR, hSol⟩⟩ := h
  · exact ⟨hb, none, 1100, rfl, Lib.hid (.inl ⟨rfl, rfl, h1⟩)⟩
  · exact ⟨hb, _, 0, rfl, Lib.hid (.inr ⟨rfl, hm, t, fin, rfl, tG, tW, hL, hS, hR, hSol⟩)⟩
theorem NewRes.below {G : Gram} {W : ByteArray} {p : Option Addr} {er : Int} {w w' : World} (h : NewRes G W p er w) (hb : Below w.heap.size w w') : NewRes G W p er w' := by
  rcases h with h | ⟨a, b, t, fin, c, d, e, f⟩
  · exact .inl h
  · exact .inr ⟨a, b, t, fin, c, d, e, f.below hb⟩
theorem conj_lie1 {w : World} {b : Nat} (neg : Bool) {ss : List Sym} (hs : ss.length ≤ 64) (h : symRd.C w (some ⟨b, 0, none⟩) ss) :
    conjRd.C (w.alloc (.cells #[.bool neg, .slice (some ⟨b, 0, none⟩) ss.length ss.length] 48 (0, 0))) (some ⟨w.heap.size, 0, none⟩) [⟨neg, ss⟩] :=
  C_blk [[.bool neg, .slice (some ⟨b, 0, none⟩) ss.length ss.length]] (heap_alloc_new w _) rfl ⟨⟨conjRd_mk (x := ⟨neg, ss⟩) (Nat.le_refl _) (by show ss.length ≤ _; omega) (h.mono (below_alloc' (below_refl _) _)), rfl⟩, trivial⟩
theorem conj_lie2 {w : World} {b : Nat} (neg neg' : Bool) {ss : List Sym} (hs : ss.length ≤ 64) (h : symRd.C w (some ⟨b, 0, none⟩) ss) :
    conjRd.C (w.alloc (.cells #[.bool neg, .slice (some ⟨b, 0, none⟩) ss.length ss.length, .bool neg', .slice (some ⟨b, 0, none⟩) ss.length ss.length] 48 (0, 0))) (some ⟨w.heap.size, 0, none⟩) [⟨neg, ss⟩, ⟨neg', ss⟩] :=
  C_blk [[.bool neg, .slice (some ⟨b, 0, none⟩) ss.length ss.length], [.bool neg', .slice (some ⟨b, 0, none⟩) ss.length ss.length]] (heap_alloc_new w _) rfl ⟨⟨conjRd_mk (x := ⟨neg, ss⟩) (Nat.le_refl _) (by show ss.length ≤ _; omega) (h.mono (below_alloc' (below_refl _) _)), rfl⟩, ⟨conjRd_mk (x := ⟨neg', ss⟩) (Nat.le_refl _) (by show ss.length ≤ _; omega) (h.mono (below_alloc' (below_refl _) _)), rfl⟩, trivial⟩
section
variable {w w' : World} {t u : TS} {fin fin' : Rk × Rk} {k : Nat} {i j : Int}
theorem sign_base (T : Tab w t fin) (U : Tab w' u fin') (hk : k < t.K) {cs : List Conj} (hG : u.G = oneG t.G cs) (hW : u.W = t.W) (i0 : 0 ≤ i) (ij : i ≤ j) (j1 : j ≤ t.W.size) :
    t.rank fin.1 k i j = fin'.1 k i j ∧ ∃ P : Nat → Int, (0 < u.rank fin'.1 t.K i j ↔ HoldsTo P cs cs.length) ∧ (0 < u.rank fin'.1 t.K i j → u.rank fin'.1 t.K i j = topTo P cs.length) ∧
      (∀ (c : Nat) (neg : Bool) (a b : Int), cs[c]? = some ⟨neg, [⟨(k : Int), a, b⟩]⟩ → (0 < P c ↔ 0 < t.rank fin.1 k i j) ∧ (0 < P c → P c = 1 + max (t.rank fin.1 k i j) 1)) ∧ ∀ c, 0 ≤ P c := by
  have hK : u.K = t.K + 1 := by unfold TS.K; rw [hG]; simp [oneG]
  have hWs : u.W.size = t.W.size := by rw [hW]
  have EQ := ext_eq T U (by rw [hG, oneG_ext]) hW (fun x hx => by rw [List.mem_singleton.1 hx]; rfl)
  have V := U.view
  have hx : u.G.rules[t.G.rules.length]? = some ⟨(t.K : Int), cs⟩ := by
    rw [hG, oneG_ext]; exact ext_at 0
  have only : ∀ r x, u.G.rules[r]? = some x → x.head.toNat = t.K → r = t.G.rules.length := fun r x h1 h2 => by
    rw [hG, oneG_ext] at h1
    rcases ext_new h1 with h | ⟨h3, h⟩
    · have := T.H.F.head r x h; omega
    · have := (List.getElem?_eq_some_iff.1 h).1
      simp at this
      omega
  have e1 : t.rank fin.1 k i j = fin'.1 k i j := by rw [rank_in hk i0 ij j1, EQ k i j hk i0 ij j1]
  have N := name_one V hx only (by omega) i0 ij (by omega)
  refine ⟨e1, fun c => fin'.2 (u.off t.G.rules.length c + 0) i j, ?_, ?_, fun c neg a b hc => ?_, fun c => V.p0 _ _ _ _ _⟩
  · rw [rank_in (by omega) i0 ij (by omega)]; exact N.1
  · rw [rank_in (by omega) i0 ij (by omega)]; exact N.2
  · rw [e1]
    exact seq_one V hx hc i0 ij (by omega)
theorem sign_a (T : Tab w t fin) (U : Tab w' u fin') (hk : k < t.K) (hG : u.G = oneG t.G [⟨false, [⟨(k : Int), 0, 0⟩]⟩]) (hW : u.W = t.W) (i0 : 0 ≤ i) (ij : i ≤ j) (j1 : j ≤ t.W.size) :
    (0 < u.rank fin'.1 t.K i j ↔ 0 < t.rank fin.1 k i j) ∧ (0 < t.rank fin.1 k i j → t.rank fin.1 k i j < u.rank fin'.1 t.K i j) := by
  obtain ⟨-, P, h1, h2, h3, -⟩ := sign_base T U hk hG hW i0 ij j1
  have h4 := h3 0 _ _ _ rfl
  rw [holds_1] at h1
  have e : (decide (0 < P 0) == false) = false ↔ 0 < P 0 := by simp
  rw [e, h4.1] at h1
  refine ⟨h1, fun h => ?_⟩
  have h5 := h2 (h1.2 h)
  have h6 : P 0 + 1 ≤ topTo P 1 := topTo_at (by decide)
  have h7 := h4.2 (h4.1.2 h)
  change _ = topTo P 1 at h5
  omega
theorem sign_b (T : Tab w t fin) (U : Tab w' u fin') (hk : k < t.K) (hG : u.G = oneG t.G [⟨true, [⟨(k : Int), 0, 0⟩]⟩]) (hW : u.W = t.W) (i0 : 0 ≤ i) (ij : i ≤ j) (j1 : j ≤ t.W.size) :
    (0 < u.rank fin'.1 t.K i j ↔ ¬ 0 < t.rank fin.1 k i j) ∧ (0 < u.rank fin'.1 t.K i j → u.rank fin'.1 t.K i j = 1) := by
  obtain ⟨-, P, h1, h2, h3, h0⟩ := sign_base T U hk hG hW i0 ij j1
  have h4 := h3 0 _ _ _ rfl
  rw [holds_1] at h1
  have e : (decide (0 < P 0) == true) = false ↔ ¬ 0 < P 0 := by simp
  rw [e, h4.1] at h1
  refine ⟨h1, fun h => ?_⟩
  have h5 := h2 h
  have h6 : ¬ 0 < P 0 := fun h' => h1.1 h (h4.1.1 h')
  have h7 : topTo P 1 ≤ 1 := topTo_le (Int.le_refl _) (fun c hc => by
    have : c = 0 := by omega
    subst this; omega)
  change _ = topTo P 1 at h5
  omega
theorem sign_c (T : Tab w t fin) (U : Tab w' u fin') (hk : k < t.K) (hG : u.G = oneG t.G [⟨false, [⟨(k : Int), 0, 0⟩]⟩, ⟨true, [⟨(k : Int), 0, 0⟩]⟩]) (hW : u.W = t.W) (i0 : 0 ≤ i) (ij : i ≤ j) (j1 : j ≤ t.W.size) :
    ¬ 0 < u.rank fin'.1 t.K i j := by
  obtain ⟨-, P, h1, h2, h3, h0⟩ := sign_base T U hk hG hW i0 ij j1
  have h4 := h3 0 _ _ _ rfl
  have h5 := h3 1 _ _ _ rfl
  intro h
  have h6 := holds_2.1 (h1.1 h)
  have a : 0 < P 0 := by simpa using h6.1
  have b : ¬ 0 < P 1 := by simpa using h6.2
  exact b (h5.1.2 (h4.1.1 a))
end
/-- Where both may be, each may be. -/
theorem signs_may {G : Gram} {k : Nat} (hG : mayB G = true) (h : mayB (oneG G [⟨false, [⟨(k : Int), 0, 0⟩]⟩, ⟨true, [⟨(k : Int), 0, 0⟩]⟩]) = true) (neg : Bool) : mayB (oneG G [⟨neg, [⟨(k : Int), 0, 0⟩]⟩]) = true := by
  rw [one_may hG] at h ⊢
  obtain ⟨a, b, c, d, e⟩ := h
  refine ⟨a, b, c, ?_, ?_⟩
  · simp only [ruleB, conjB, List.all_cons, List.all_nil, Bool.and_eq_true, decide_eq_true_eq, List.length_cons, List.length_nil] at d ⊢
    exact ⟨⟨by omega, by omega⟩, d.2.1, trivial⟩
  · have e1 : sSum [⟨false, [⟨(k : Int), 0, 0⟩]⟩, ⟨true, [⟨(k : Int), 0, 0⟩]⟩] 2 = 2 := rfl
    have e2 : sSum [⟨neg, [⟨(k : Int), 0, 0⟩]⟩] 1 = 1 := rfl
    simp only [List.length_cons, List.length_nil] at e ⊢
    change tot G.rules G.rules.length + sSum _ 2 ≤ 1024 at e
    change tot G.rules G.rules.length + sSum _ 1 ≤ 1024
    omega
theorem sign_newok {n k : Nat} (hk : k < n) (neg : Bool) : NewOk n [⟨(n : Int), [⟨neg, [⟨(k : Int), 0, 0⟩]⟩]⟩] := by
  intro x hx
  rw [List.mem_singleton.1 hx]
  refine ⟨rfl, fun y hy s hs => ?_⟩
  rw [List.mem_singleton.1 hy] at hs
  rw [List.mem_singleton.1 hs]
  exact ⟨by show (k : Int) ≤ n; omega, fun _ => by show (k : Int) < n; omega⟩
/-- If the grammar with both is taken, each of the others is. -/
theorem signs_ref {G : Gram} {W : ByteArray} {k : Nat} (hG : mayB G = true) (hcyc : ¬ NegCyc (edgesOf G)) (hW : W.size ≤ 32) (hk : k < G.names.length) (h : mayB (oneG G [⟨false, [⟨(k : Int), 0, 0⟩]⟩, ⟨true, [⟨(k : Int), 0, 0⟩]⟩]) = true) (neg : Bool) :
    ¬ (RefG (oneG G [⟨neg, [⟨(k : Int), 0, 0⟩]⟩]) ∨ 32 < W.size) := by
  rintro (h1 | h1)
  · exact refG_no h1 (signs_may hG h neg) (by rw [oneG_ext]; exact ext_cyc (mayG hG) (sign_newok hk neg) hcyc)
  · omega
set_option maxRecDepth 100000 in
set_option maxHeartbeats 4000000 in
theorem signs_any {w : World} (G : Gram) (W : ByteArray) {A A' : Option Addr} {c c' : Nat} (x : Int) (hWs : W.size < 140737488351233) (n1 : G.names.length ≤ c) (n2 : c ≤ 9223372036854775807) (n3 : Rd.str.C w A G.names) (n4 : G.rules.length ≤ c') (n5 : c' ≤ 9223372036854775807) (n6 : rulRd.C w A' G.rules) :
    Calls Try.prog 7 #[.agg #[.int .i64 G.start, .slice A G.names.length c, .slice A' G.rules.length c'], .string W, .int .i64 x] w
      fun e w' => e = .returned (.bool true) ∧ Below w.heap.size w w' := by
  have hb0 : Below w.heap.size w (w.alloc (Obj.cells #[Value.int .i64 G.start, Value.slice A G.names.length c, Value.slice A' G.rules.length c'] 25)) := below_alloc' (below_refl w) _
  have B0 := heap_alloc_new w (Obj.cells #[Value.int .i64 G.start, Value.slice A G.names.length c, Value.slice A' G.rules.length c'] 25)
  have N3 := Lib.hid (n3.mono hb0)
  have N6 := Lib.hid (n6.mono hb0)
  clear n3 n6
  go_enter Try.func7, Try.ntmps7
  go_wp2_with fail
  obtain ⟨bx, hbx⟩ : ∃ bx, bx = w.heap.size := ⟨_, rfl⟩
  rw [← hbx] at B0 ⊢
  generalize w.alloc (Obj.cells #[Value.int .i64 G.start, Value.slice A G.names.length c, Value.slice A' G.rules.length c'] 25) = w0 at hb0 B0 N3 N6 ⊢
  have HB0 := Lib.hid hb0
  have HX := Lib.hid B0
  clear hb0 B0 hbx
  go_wp2_with (first
    | (go_at_call 13; refine (awake_any _).mono ?_; rintro e w1 ⟨rfl, hb1⟩; have HB1 := Lib.hid hb1; have z0 : w1.cell? ⟨bx, 0, none⟩ = some (.int .i64 G.start) := blk_cell (blk_below HX.out hb1) 0; have z1 : w1.cell? ⟨bx, 1, none⟩ = some (.slice A G.names.length c) := blk_cell (blk_below HX.out hb1) 1; have z2 : w1.cell? ⟨bx, 2, none⟩ = some (.slice A' G.rules.length c') := blk_cell (blk_below HX.out hb1) 2; clear hb1)
    | fail)
  refine (new_whole G W n1 n2 (N3.out.mono HB1.out) n4 n5 (N6.out.mono HB1.out)).mono ?_
  rintro e w2 ⟨hb2, ⟨-, rfl⟩ | ⟨hmay, hcyc, hW, t, fin, hL, tG, tW, rfl, hS, hR, hSol⟩⟩
  · have HB2 := Lib.hid hb2
    clear hb2 z0 z1 z2
    go_wp2_with (first
      | (go_at_call 15; refine (num_any _ _).mono ?_; rintro e w' ⟨rfl, rfl⟩)
      | fail)
    go_ret
    exact ⟨rfl, below_trans HB0.out (below_trans HB1.out HB2.out)⟩
  · have T2 := Lib.hid (show Tab w2 t fin from ⟨hL, hS, hR, hSol⟩)
    have TG := Lib.hid tG
    have TW := Lib.hid tW
    have MAY := Lib.hid hmay
    have CYC := Lib.hid hcyc
    have TK := Lib.hid (show t.K = G.names.length by unfold TS.K; rw [tG])
    have F0 := Lib.hid hL.F
    have HB2 := Lib.hid (below_trans HB1.out hb2)
    have hK1 := (mayG hmay).K1
    have hK64 := (mayG hmay).K64
    have hR256 := (mayG hmay).rules
    clear hb2 z0 z1 z2 HB1 hL hS hR hSol tG tW hmay hcyc
    have bX := Lib.hid (blk_below HX.out HB2.out)
    have z0 : w2.cell? ⟨bx, 0, none⟩ = some (.int .i64 G.start) := blk_cell bX.out 0
    have z1 : w2.cell? ⟨bx, 1, none⟩ = some (.slice A G.names.length c) := blk_cell bX.out 1
    have z2 : w2.cell? ⟨bx, 2, none⟩ = some (.slice A' G.rules.length c') := blk_cell bX.out 2
    have N62 := Lib.hid (N6.out.mono HB2.out)
    have N32 := Lib.hid (N3.out.mono HB2.out)
    clear N6 N3 HX
    by_cases e1 : 64 ≤ G.names.length
    · have e1' : (64 : Int) ≤ (G.names.length : Int) := by omega
      go_wp2_with (first
        | (go_at_call 15; refine (num_any _ _).mono ?_; rintro e w2 ⟨rfl, rfl⟩)
        | fail)
      go_ret
      exact ⟨rfl, below_then HB0.out HB2.out⟩
    by_cases e2 : 256 ≤ G.rules.length
    · have e2' : (256 : Int) ≤ (G.rules.length : Int) := by omega
      go_wp2_with (first
        | (go_at_call 15; refine (num_any _ _).mono ?_; rintro e w2 ⟨rfl, rfl⟩)
        | fail)
      go_ret
      exact ⟨rfl, below_then HB0.out HB2.out⟩
    by_cases e3 : 10 < W.size
    · have e3' : (10 : Int) < (W.size : Int) := by omega
      go_wp2_with (first
        | (go_at_call 15; refine (num_any _ _).mono ?_; rintro e w2 ⟨rfl, rfl⟩)
        | fail)
      go_ret
      exact ⟨rfl, below_then HB0.out HB2.out⟩
    obtain ⟨k, hk, hk1⟩ := umod_names x hK1 hK64
    have hz : ((G.names.length : Int) = 0) = False := eq_false (by omega)
    have s0 : ∀ o o', ((w2.alloc o).alloc o').cell? ⟨bx, 0, none⟩ = some (.int .i64 G.start) := fun o o' => below_cell (below_alloc' (below_alloc' (below_refl _) o) o') z0
    have s1 : ∀ o o', ((w2.alloc o).alloc o').cell? ⟨bx, 1, none⟩ = some (.slice A G.names.length c) := fun o o' => below_cell (below_alloc' (below_alloc' (below_refl _) o) o') z1
    have s2 : ∀ o o', ((w2.alloc o).alloc o').cell? ⟨bx, 2, none⟩ = some (.slice A' G.rules.length c') := fun o o' => below_cell (below_alloc' (below_alloc' (below_refl _) o) o') z2
    go_wp2_with (first
      | (go_at_call 15; refine (num_any _ _).mono ?_; rintro e w2 ⟨rfl, rfl⟩)
      | fail)
    clear s0 s1 s2 z0 z1 z2
    have hp : Below w2.heap.size w2 ((w2.alloc (symO [⟨(k : Int), 0, 0⟩])).alloc (.cells #[.bool false, .slice (some ⟨w2.heap.size, 0, none⟩) 1 1] 48 (0, 0))) := below_alloc' (below_alloc' (below_refl _) _) _
    have SYp := Lib.hid (show symRd.C ((w2.alloc (symO [⟨(k : Int), 0, 0⟩])).alloc (.cells #[.bool false, .slice (some ⟨w2.heap.size, 0, none⟩) 1 1] 48 (0, 0))) (some ⟨w2.heap.size, 0, none⟩) [⟨(k : Int), 0, 0⟩] from symO_C (heap_alloc2_old w2 (symO [⟨(k : Int), 0, 0⟩]) _))
    obtain ⟨bs, hbs⟩ : ∃ bs, bs = w2.heap.size := ⟨_, rfl⟩
    have hlie := conj_lie w2 false [⟨(k : Int), 0, 0⟩] (by simp)
    have Tp := Lib.hid (T2.out.below hp)
    have Xp := Lib.hid (blk_below bX.out hp)
    have N3p := Lib.hid (N32.out.mono hp)
    have N6p := Lib.hid (N62.out.mono hp)
    have HBp := Lib.hid (below_then HB2.out hp)
    clear hp T2 bX N32 N62 HB2
    refine Calls.mono (one_any (w := ((w2.alloc (symO [⟨(k : Int), 0, 0⟩])).alloc (.cells #[.bool false, .slice (some ⟨w2.heap.size, 0, none⟩) 1 1] 48 (0, 0)))) G [⟨false, [⟨(k : Int), 0, 0⟩]⟩] n1 n2 N3p.out n4 n5 N6p.out (holdable_of (mayG MAY.out)) (by omega) (by omega) (Nat.le_refl _) (by simp) hlie) ?_
    rintro e w3 ⟨hb3, A1, c1, A2, c2, rfl, l1, l2, l3, l4, l5, l6⟩
    have T3 := Lib.hid (Tp.out.below hb3)
    have X3 := Lib.hid (blk_below Xp.out hb3)
    have SY3 := Lib.hid (SYp.out.mono hb3)
    have N33 := Lib.hid (N3p.out.mono hb3)
    have N63 := Lib.hid (N6p.out.mono hb3)
    have HB3 := Lib.hid (below_then HBp.out hb3)
    have CN := Lib.hid (new_whole (oneG G [⟨false, [⟨(k : Int), 0, 0⟩]⟩]) W l1 l2 l3 l4 l5 l6)
    clear hb3 l1 l2 l3 l4 l5 l6 Tp Xp SYp N3p N6p HBp 
    go_wp2_with fail
    refine Calls.mono CN.out ?_
    intro e w4 hn
    obtain ⟨hb4, pA, eA, rfl, RA4⟩ := new_res hn
    have T4 := Lib.hid (T3.out.below hb4)
    have X4 := Lib.hid (blk_below X3.out hb4)
    have SY4 := Lib.hid (SY3.out.mono hb4)
    have N34 := Lib.hid (N33.out.mono hb4)
    have N64 := Lib.hid (N63.out.mono hb4)
    have HB4 := Lib.hid (below_then HB3.out hb4)
    clear hn hb4 CN T3 X3 SY3 N33 N63 HB3 
    rw [← hbs] at SY4 ⊢
    clear hlie hbs
    have z0 : ∀ o, (w4.alloc o).cell? ⟨bx, 0, none⟩ = some (.int .i64 G.start) := fun o => below_cell (below_alloc' (below_refl _) o) (blk_cell X4.out 0)
    have z1 : ∀ o, (w4.alloc o).cell? ⟨bx, 1, none⟩ = some (.slice A G.names.length c) := fun o => below_cell (below_alloc' (below_refl _) o) (blk_cell X4.out 1)
    have z2 : ∀ o, (w4.alloc o).cell? ⟨bx, 2, none⟩ = some (.slice A' G.rules.length c') := fun o => below_cell (below_alloc' (below_refl _) o) (blk_cell X4.out 2)
    go_wp2_with fail
    clear z0 z1 z2
    have hp : Below w4.heap.size w4 (w4.alloc (.cells #[.bool true, .slice (some ⟨bs, 0, none⟩) 1 1] 48 (0, 0))) := below_alloc' (below_refl _) _
    have hlie := conj_lie1 true (by simp) SY4.out
    have Tp := Lib.hid (T4.out.below hp)
    have Xp := Lib.hid (blk_below X4.out hp)
    have SYp := Lib.hid (SY4.out.mono hp)
    have N3p := Lib.hid (N34.out.mono hp)
    have N6p := Lib.hid (N64.out.mono hp)
    have HBp := Lib.hid (below_then HB4.out hp)
    have RAp := Lib.hid (RA4.out.below hp)
    clear hp T4 X4 N34 N64 HB4 SY4 RA4
    refine Calls.mono (one_any (w := (w4.alloc (.cells #[.bool true, .slice (some ⟨bs, 0, none⟩) 1 1] 48 (0, 0)))) G [⟨true, [⟨(k : Int), 0, 0⟩]⟩] n1 n2 N3p.out n4 n5 N6p.out (holdable_of (mayG MAY.out)) (by omega) (by omega) (Nat.le_refl _) (by simp) hlie) ?_
    rintro e w5 ⟨hb5, A1, c1, A2, c2, rfl, l1, l2, l3, l4, l5, l6⟩
    have T5 := Lib.hid (Tp.out.below hb5)
    have X5 := Lib.hid (blk_below Xp.out hb5)
    have SY5 := Lib.hid (SYp.out.mono hb5)
    have N35 := Lib.hid (N3p.out.mono hb5)
    have N65 := Lib.hid (N6p.out.mono hb5)
    have HB5 := Lib.hid (below_then HBp.out hb5)
    have CN := Lib.hid (new_whole (oneG G [⟨true, [⟨(k : Int), 0, 0⟩]⟩]) W l1 l2 l3 l4 l5 l6)
    have RA5 := Lib.hid (RAp.out.below hb5)
    clear hb5 l1 l2 l3 l4 l5 l6 Tp Xp SYp N3p N6p HBp RAp
    go_wp2_with fail
    refine Calls.mono CN.out ?_
    intro e w6 hn
    obtain ⟨hb6, pB, eB, rfl, RB6⟩ := new_res hn
    have T6 := Lib.hid (T5.out.below hb6)
    have X6 := Lib.hid (blk_below X5.out hb6)
    have SY6 := Lib.hid (SY5.out.mono hb6)
    have N36 := Lib.hid (N35.out.mono hb6)
    have N66 := Lib.hid (N65.out.mono hb6)
    have HB6 := Lib.hid (below_then HB5.out hb6)
    have RA6 := Lib.hid (RA5.out.below hb6)
    clear hn hb6 CN T5 X5 SY5 N35 N65 HB5 RA5
    clear hlie
    have z0 : ∀ o, (w6.alloc o).cell? ⟨bx, 0, none⟩ = some (.int .i64 G.start) := fun o => below_cell (below_alloc' (below_refl _) o) (blk_cell X6.out 0)
    have z1 : ∀ o, (w6.alloc o).cell? ⟨bx, 1, none⟩ = some (.slice A G.names.length c) := fun o => below_cell (below_alloc' (below_refl _) o) (blk_cell X6.out 1)
    have z2 : ∀ o, (w6.alloc o).cell? ⟨bx, 2, none⟩ = some (.slice A' G.rules.length c') := fun o => below_cell (below_alloc' (below_refl _) o) (blk_cell X6.out 2)
    go_wp2_with fail
    clear z0 z1 z2
    have hp : Below w6.heap.size w6 (w6.alloc (.cells #[.bool false, .slice (some ⟨bs, 0, none⟩) 1 1, .bool true, .slice (some ⟨bs, 0, none⟩) 1 1] 48 (0, 0))) := below_alloc' (below_refl _) _
    have hlie := conj_lie2 false true (by simp) SY6.out
    have Tp := Lib.hid (T6.out.below hp)
    have Xp := Lib.hid (blk_below X6.out hp)
    have SYp := Lib.hid (SY6.out.mono hp)
    have N3p := Lib.hid (N36.out.mono hp)
    have N6p := Lib.hid (N66.out.mono hp)
    have HBp := Lib.hid (below_then HB6.out hp)
    have RAp := Lib.hid (RA6.out.below hp)
    have RBp := Lib.hid (RB6.out.below hp)
    clear hp T6 X6 N36 N66 HB6 SY6 RA6 RB6
    refine Calls.mono (one_any (w := (w6.alloc (.cells #[.bool false, .slice (some ⟨bs, 0, none⟩) 1 1, .bool true, .slice (some ⟨bs, 0, none⟩) 1 1] 48 (0, 0)))) G [⟨false, [⟨(k : Int), 0, 0⟩]⟩, ⟨true, [⟨(k : Int), 0, 0⟩]⟩] n1 n2 N3p.out n4 n5 N6p.out (holdable_of (mayG MAY.out)) (by omega) (by omega) (Nat.le_refl _) (by simp) hlie) ?_
    rintro e w7 ⟨hb7, A1, c1, A2, c2, rfl, l1, l2, l3, l4, l5, l6⟩
    have T7 := Lib.hid (Tp.out.below hb7)
    have X7 := Lib.hid (blk_below Xp.out hb7)
    have SY7 := Lib.hid (SYp.out.mono hb7)
    have N37 := Lib.hid (N3p.out.mono hb7)
    have N67 := Lib.hid (N6p.out.mono hb7)
    have HB7 := Lib.hid (below_then HBp.out hb7)
    have CN := Lib.hid (new_whole (oneG G [⟨false, [⟨(k : Int), 0, 0⟩]⟩, ⟨true, [⟨(k : Int), 0, 0⟩]⟩]) W l1 l2 l3 l4 l5 l6)
    have RA7 := Lib.hid (RAp.out.below hb7)
    have RB7 := Lib.hid (RBp.out.below hb7)
    clear hb7 l1 l2 l3 l4 l5 l6 Tp Xp SYp N3p N6p HBp RAp RBp
    go_wp2_with fail
    refine Calls.mono CN.out ?_
    intro e w8 hn
    obtain ⟨hb8, pD, eD, rfl, RD8⟩ := new_res hn
    have T8 := Lib.hid (T7.out.below hb8)
    have X8 := Lib.hid (blk_below X7.out hb8)
    have SY8 := Lib.hid (SY7.out.mono hb8)
    have N38 := Lib.hid (N37.out.mono hb8)
    have N68 := Lib.hid (N67.out.mono hb8)
    have HB8 := Lib.hid (below_then HB7.out hb8)
    have RA8 := Lib.hid (RA7.out.below hb8)
    have RB8 := Lib.hid (RB7.out.below hb8)
    clear hn hb8 CN T7 X7 SY7 N37 N67 HB7 RA7 RB7
    clear hlie N38 N68 SY8
    rcases RD8.out with ⟨rfl, rfl, -⟩ | ⟨rfl, hmD, d, fd, rfl, dG, dW, hTD⟩
    · rcases RA8.out with ⟨rfl, rfl, -⟩ | ⟨rfl, -, a, fa, rfl, -⟩ <;> rcases RB8.out with ⟨rfl, rfl, -⟩ | ⟨rfl, -, b, fb, rfl, -⟩
      all_goals
        go_wp2_with (first
          | (go_at_call 15; refine (num_any _ _).mono ?_; rintro e w8 ⟨rfl, rfl⟩)
          | fail)
        go_ret
        exact ⟨rfl, below_then HB0.out HB8.out⟩
    · obtain ⟨rfl, -, a, fa, rfl, aG, aW, hTA⟩ := RA8.out.resolve_left (fun h => signs_ref MAY.out CYC.out hW hk1 hmD false h.2.2)
      obtain ⟨rfl, -, b, fb, rfl, bG, bW, hTB⟩ := RB8.out.resolve_left (fun h => signs_ref MAY.out CYC.out hW hk1 hmD true h.2.2)
      have TA8 := Lib.hid hTA
      have TB8 := Lib.hid hTB
      have TD8 := Lib.hid hTD
      have AG := Lib.hid aG
      have AW := Lib.hid aW
      have BG := Lib.hid bG
      have BW := Lib.hid bW
      have DG := Lib.hid dG
      have DW := Lib.hid dW
      have FA := Lib.hid hTA.H.F
      have FB := Lib.hid hTB.H.F
      have FD := Lib.hid hTD.H.F
      clear RA8 RB8 RD8 hTA hTB hTD aG aW bG bW dG dW
      have z1 : w8.cell? ⟨bx, 1, none⟩ = some (.slice A G.names.length c) := blk_cell X8.out 1
      go_wp2_with (first
        | (go_at_call 15; refine (num_any _ _).mono ?_; rintro e w8 ⟨rfl, rfl⟩)
        | fail)
      clear z1
      go_loopw [17] (fun cnt wr => NumRel w8 (W.size + 1) cnt wr) (fun cnt _ => W.size + 1 - (intOf cnt).toNat)
      case atStart => exact ⟨0, rfl, Nat.zero_le _, below_refl _⟩
      case round =>
        obtain ⟨i, rfl, hi, hb⟩ := hrel
        have HB := Lib.hid hb
        clear hb
        by_cases hlt : i ≤ W.size
        · go_wp2_with fail
          go_loopw [18] (fun cnt wr' => TillRel w8 i W.size cnt wr') (fun cnt _ => W.size + 1 - (intOf cnt).toNat)
          case atStart => exact ⟨i, rfl, Nat.le_refl _, by omega, HB.out⟩
          case round =>
            clear HB
            obtain ⟨j, rfl, hij, hj, hb⟩ := hrel
            have HB5 := Lib.hid hb
            have TT5 := Lib.hid (T8.out.below hb)
            have TA5 := Lib.hid (TA8.out.below hb)
            have TB5 := Lib.hid (TB8.out.below hb)
            have TD5 := Lib.hid (TD8.out.below hb)
            clear hb
            by_cases hltj : j ≤ W.size
            · have hkt : k < t.K := by rw [TK.out]; exact hk1
              have ansA := sign_a TT5.out TA5.out hkt (by rw [AG.out, TG.out]) (by rw [AW.out, TW.out]) (i := i) (j := j) (by omega) (by omega) (by rw [TW.out]; omega)
              have ansB := sign_b TT5.out TB5.out hkt (by rw [BG.out, TG.out]) (by rw [BW.out, TW.out]) (i := i) (j := j) (by omega) (by omega) (by rw [TW.out]; omega)
              have ansD := sign_c TT5.out TD5.out hkt (by rw [DG.out, TG.out]) (by rw [DW.out, TW.out]) (i := i) (j := j) (by omega) (by omega) (by rw [TW.out]; omega)
              rw [TK.out] at ansA ansB ansD
              obtain ⟨R, hR⟩ : ∃ R, t.rank fin.1 k i j = R := ⟨_, rfl⟩
              obtain ⟨RA, hRA⟩ : ∃ R, a.rank fa.1 G.names.length i j = R := ⟨_, rfl⟩
              obtain ⟨RB, hRB⟩ : ∃ R, b.rank fb.1 G.names.length i j = R := ⟨_, rfl⟩
              obtain ⟨RD, hRD⟩ : ∃ R, d.rank fd.1 G.names.length i j = R := ⟨_, rfl⟩
              rw [hR] at ansA ansB
              rw [hRA] at ansA
              rw [hRB] at ansB
              rw [hRD] at ansD
              have HR := Lib.hid hR
              have HRA := Lib.hid hRA
              have HRB := Lib.hid hRB
              have HRD := Lib.hid hRD
              clear hR hRA hRB hRD hkt
              have eD := Lib.hid (show decide (0 < RD) = false by simpa using ansD)
              by_cases h0 : 0 < R
              · have eT := Lib.hid (show decide (0 < R) = true by simpa using h0)
                have eA := Lib.hid (show decide (0 < RA) = true by simpa using ansA.1.2 h0)
                have eB := Lib.hid (show decide (0 < RB) = false by simpa using fun h => ansB.1.1 h h0)
                have hle : decide (RA ≤ R) = false := by have := ansA.2 h0; simpa using this
                clear ansA ansB ansD h0
                go_wp2_with (first
                  | (go_at_call_of 16 (t.p); refine Calls.mono (has_any (t := t) (NM := fin.1) (PL := fin.2) (by exact (show Hid (Tab _ t fin) by assumption).out.st) F0.out (by exact (show Hid (Tab _ t fin) by assumption).out.rw) _ _ _) ?_; rintro e w5 ⟨rfl, hb5⟩; have TT5 := Lib.hid ((show Hid (Tab _ t fin) by assumption).out.below hb5); have TA5 := Lib.hid ((show Hid (Tab _ a fa) by assumption).out.below hb5); have TB5 := Lib.hid ((show Hid (Tab _ b fb) by assumption).out.below hb5); have TD5 := Lib.hid ((show Hid (Tab _ d fd) by assumption).out.below hb5); have HB5 := Lib.hid (below_then (show Hid (Below w8.heap.size w8 _) by assumption).out hb5); clear hb5; (first | rw [HR.out, eT.out]))
                  | (go_at_call_of 16 (a.p); refine Calls.mono (has_any (t := a) (NM := fa.1) (PL := fa.2) (by exact (show Hid (Tab _ a fa) by assumption).out.st) FA.out (by exact (show Hid (Tab _ a fa) by assumption).out.rw) _ _ _) ?_; rintro e w5 ⟨rfl, hb5⟩; have TT5 := Lib.hid ((show Hid (Tab _ t fin) by assumption).out.below hb5); have TA5 := Lib.hid ((show Hid (Tab _ a fa) by assumption).out.below hb5); have TB5 := Lib.hid ((show Hid (Tab _ b fb) by assumption).out.below hb5); have TD5 := Lib.hid ((show Hid (Tab _ d fd) by assumption).out.below hb5); have HB5 := Lib.hid (below_then (show Hid (Below w8.heap.size w8 _) by assumption).out hb5); clear hb5; rw [HRA.out, eA.out])
                  | (go_at_call_of 16 (b.p); refine Calls.mono (has_any (t := b) (NM := fb.1) (PL := fb.2) (by exact (show Hid (Tab _ b fb) by assumption).out.st) FB.out (by exact (show Hid (Tab _ b fb) by assumption).out.rw) _ _ _) ?_; rintro e w5 ⟨rfl, hb5⟩; have TT5 := Lib.hid ((show Hid (Tab _ t fin) by assumption).out.below hb5); have TA5 := Lib.hid ((show Hid (Tab _ a fa) by assumption).out.below hb5); have TB5 := Lib.hid ((show Hid (Tab _ b fb) by assumption).out.below hb5); have TD5 := Lib.hid ((show Hid (Tab _ d fd) by assumption).out.below hb5); have HB5 := Lib.hid (below_then (show Hid (Below w8.heap.size w8 _) by assumption).out hb5); clear hb5; rw [HRB.out, eB.out])
                  | (go_at_call_of 16 (d.p); refine Calls.mono (has_any (t := d) (NM := fd.1) (PL := fd.2) (by exact (show Hid (Tab _ d fd) by assumption).out.st) FD.out (by exact (show Hid (Tab _ d fd) by assumption).out.rw) _ _ _) ?_; rintro e w5 ⟨rfl, hb5⟩; have TT5 := Lib.hid ((show Hid (Tab _ t fin) by assumption).out.below hb5); have TA5 := Lib.hid ((show Hid (Tab _ a fa) by assumption).out.below hb5); have TB5 := Lib.hid ((show Hid (Tab _ b fb) by assumption).out.below hb5); have TD5 := Lib.hid ((show Hid (Tab _ d fd) by assumption).out.below hb5); have HB5 := Lib.hid (below_then (show Hid (Below w8.heap.size w8 _) by assumption).out hb5); clear hb5; rw [HRD.out, eD.out])
                  | (go_at_call_of 19 (t.p); refine Calls.mono (rank_any (t := t) (NM := fin.1) (PL := fin.2) (by exact (show Hid (Tab _ t fin) by assumption).out.st) F0.out (by exact (show Hid (Tab _ t fin) by assumption).out.rw) _ _ _) ?_; rintro e w5 ⟨rfl, hb5⟩; have TT5 := Lib.hid ((show Hid (Tab _ t fin) by assumption).out.below hb5); have TA5 := Lib.hid ((show Hid (Tab _ a fa) by assumption).out.below hb5); have TB5 := Lib.hid ((show Hid (Tab _ b fb) by assumption).out.below hb5); have TD5 := Lib.hid ((show Hid (Tab _ d fd) by assumption).out.below hb5); have HB5 := Lib.hid (below_then (show Hid (Below w8.heap.size w8 _) by assumption).out hb5); clear hb5; rw [HR.out])
                  | (go_at_call_of 19 (a.p); refine Calls.mono (rank_any (t := a) (NM := fa.1) (PL := fa.2) (by exact (show Hid (Tab _ a fa) by assumption).out.st) FA.out (by exact (show Hid (Tab _ a fa) by assumption).out.rw) _ _ _) ?_; rintro e w5 ⟨rfl, hb5⟩; have TT5 := Lib.hid ((show Hid (Tab _ t fin) by assumption).out.below hb5); have TA5 := Lib.hid ((show Hid (Tab _ a fa) by assumption).out.below hb5); have TB5 := Lib.hid ((show Hid (Tab _ b fb) by assumption).out.below hb5); have TD5 := Lib.hid ((show Hid (Tab _ d fd) by assumption).out.below hb5); have HB5 := Lib.hid (below_then (show Hid (Below w8.heap.size w8 _) by assumption).out hb5); clear hb5; rw [HRA.out])
                  | fail)
                go_roundw
                case rel => exact ⟨j + 1, by go_num, by omega, by omega, HB5.out⟩
                case measure => simp [intOf]; omega
              · have eT := Lib.hid (show decide (0 < R) = false by simpa using h0)
                have eA := Lib.hid (show decide (0 < RA) = false by simpa using fun h => h0 (ansA.1.1 h))
                have eB := Lib.hid (show decide (0 < RB) = true by simpa using ansB.1.2 h0)
                have hRB1 := Lib.hid (ansB.2 (ansB.1.2 h0))
                clear ansA ansB ansD h0
                go_wp2_with (first
                  | (go_at_call_of 16 (t.p); refine Calls.mono (has_any (t := t) (NM := fin.1) (PL := fin.2) (by exact (show Hid (Tab _ t fin) by assumption).out.st) F0.out (by exact (show Hid (Tab _ t fin) by assumption).out.rw) _ _ _) ?_; rintro e w5 ⟨rfl, hb5⟩; have TT5 := Lib.hid ((show Hid (Tab _ t fin) by assumption).out.below hb5); have TA5 := Lib.hid ((show Hid (Tab _ a fa) by assumption).out.below hb5); have TB5 := Lib.hid ((show Hid (Tab _ b fb) by assumption).out.below hb5); have TD5 := Lib.hid ((show Hid (Tab _ d fd) by assumption).out.below hb5); have HB5 := Lib.hid (below_then (show Hid (Below w8.heap.size w8 _) by assumption).out hb5); clear hb5; rw [HR.out, eT.out])
                  | (go_at_call_of 16 (a.p); refine Calls.mono (has_any (t := a) (NM := fa.1) (PL := fa.2) (by exact (show Hid (Tab _ a fa) by assumption).out.st) FA.out (by exact (show Hid (Tab _ a fa) by assumption).out.rw) _ _ _) ?_; rintro e w5 ⟨rfl, hb5⟩; have TT5 := Lib.hid ((show Hid (Tab _ t fin) by assumption).out.below hb5); have TA5 := Lib.hid ((show Hid (Tab _ a fa) by assumption).out.below hb5); have TB5 := Lib.hid ((show Hid (Tab _ b fb) by assumption).out.below hb5); have TD5 := Lib.hid ((show Hid (Tab _ d fd) by assumption).out.below hb5); have HB5 := Lib.hid (below_then (show Hid (Below w8.heap.size w8 _) by assumption).out hb5); clear hb5; rw [HRA.out, eA.out])
                  | (go_at_call_of 16 (b.p); refine Calls.mono (has_any (t := b) (NM := fb.1) (PL := fb.2) (by exact (show Hid (Tab _ b fb) by assumption).out.st) FB.out (by exact (show Hid (Tab _ b fb) by assumption).out.rw) _ _ _) ?_; rintro e w5 ⟨rfl, hb5⟩; have TT5 := Lib.hid ((show Hid (Tab _ t fin) by assumption).out.below hb5); have TA5 := Lib.hid ((show Hid (Tab _ a fa) by assumption).out.below hb5); have TB5 := Lib.hid ((show Hid (Tab _ b fb) by assumption).out.below hb5); have TD5 := Lib.hid ((show Hid (Tab _ d fd) by assumption).out.below hb5); have HB5 := Lib.hid (below_then (show Hid (Below w8.heap.size w8 _) by assumption).out hb5); clear hb5; rw [HRB.out, eB.out])
                  | (go_at_call_of 16 (d.p); refine Calls.mono (has_any (t := d) (NM := fd.1) (PL := fd.2) (by exact (show Hid (Tab _ d fd) by assumption).out.st) FD.out (by exact (show Hid (Tab _ d fd) by assumption).out.rw) _ _ _) ?_; rintro e w5 ⟨rfl, hb5⟩; have TT5 := Lib.hid ((show Hid (Tab _ t fin) by assumption).out.below hb5); have TA5 := Lib.hid ((show Hid (Tab _ a fa) by assumption).out.below hb5); have TB5 := Lib.hid ((show Hid (Tab _ b fb) by assumption).out.below hb5); have TD5 := Lib.hid ((show Hid (Tab _ d fd) by assumption).out.below hb5); have HB5 := Lib.hid (below_then (show Hid (Below w8.heap.size w8 _) by assumption).out hb5); clear hb5; rw [HRD.out, eD.out])
                  | (go_at_call_of 19 (b.p); refine Calls.mono (rank_any (t := b) (NM := fb.1) (PL := fb.2) (by exact (show Hid (Tab _ b fb) by assumption).out.st) FB.out (by exact (show Hid (Tab _ b fb) by assumption).out.rw) _ _ _) ?_; rintro e w5 ⟨rfl, hb5⟩; have TT5 := Lib.hid ((show Hid (Tab _ t fin) by assumption).out.below hb5); have TA5 := Lib.hid ((show Hid (Tab _ a fa) by assumption).out.below hb5); have TB5 := Lib.hid ((show Hid (Tab _ b fb) by assumption).out.below hb5); have TD5 := Lib.hid ((show Hid (Tab _ d fd) by assumption).out.below hb5); have HB5 := Lib.hid (below_then (show Hid (Below w8.heap.size w8 _) by assumption).out hb5); clear hb5; rw [HRB.out, hRB1.out])
                  | fail)
                go_roundw
                case rel => exact ⟨j + 1, by go_num, by omega, by omega, HB5.out⟩
                case measure => simp [intOf]; omega
            · have hje : j = W.size + 1 := by omega
              subst hje
              go_wp2_with fail
              go_roundw
              case rel => exact ⟨i + 1, by go_num, by omega, HB5.out⟩
              case measure => simp [intOf]; omega
        · have hie : i = W.size + 1 := by omega
          subst hie
          go_wp2_with fail
          go_ret
          exact ⟨rfl, below_then HB0.out (below_then HB8.out HB.out)⟩
end Go.Proofs.Ytmccdakmdcdbeaa
