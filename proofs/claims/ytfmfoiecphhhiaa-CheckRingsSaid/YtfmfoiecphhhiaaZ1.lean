/-
  Z1: proofs made by hand, of a row of bytes: which of them are taken. No program in sight.
-/
import Derived.Test.YtfmfoiecphhhiaaHe
import Derived.Test.YtfmfoiecphhhiaaW3
set_option linter.unusedSimpArgs false
set_option linter.unusedVariables false
namespace Go.Proofs.Ytfmfoiecphhhiaa
open Go.RowKit

theorem all_bad' {α : Type} {l : List α} {p : α → Bool} {y : α} (hx : y ∈ l) (hy : p y = false) : l.all p = false := by
  rw [List.all_eq_false]
  exact ⟨y, hx, by simp [hy]⟩
/-- The grammar of one row of bytes. -/
def bSym (x : ByteArray) (i : Nat) : Sym := ⟨-1, btz x i, btz x i⟩
def bSeq (x : ByteArray) (n : Nat) : List Sym := (List.range n).map (bSym x)
def bRul (x : ByteArray) (n : Nat) : Rul := ⟨0, [⟨false, bSeq x n⟩]⟩
def bG (x : ByteArray) : Gram := ⟨0, [⟨#[83]⟩], [bRul x x.size]⟩
theorem bSeq_len (x : ByteArray) (n : Nat) : (bSeq x n).length = n := by simp [bSeq]
theorem bSeq_at (x : ByteArray) {n i : Nat} (h : i < n) : (bSeq x n)[i]? = some (bSym x i) := by simp [bSeq, List.getElem?_range h]
theorem bSeq_end (x : ByteArray) (n : Nat) : (bSeq x n)[n]? = none := List.getElem?_eq_none (by rw [bSeq_len]; exact Nat.le_refl _)
theorem bSeq_succ (x : ByteArray) (n : Nat) : bSeq x (n + 1) = bSeq x n ++ [bSym x n] := by simp [bSeq, List.range_succ]
theorem bG_edges (x : ByteArray) : edgesOf (bG x) = [] := by
  apply List.eq_nil_iff_forall_not_mem.2
  intro e he
  obtain ⟨r, hr, c, hc, s, hs, h0, -⟩ := mem_edgesOf.1 he
  simp only [bG, List.mem_singleton] at hr
  subst hr
  simp only [bRul, List.mem_singleton] at hc
  subst hc
  simp only [bSeq, List.mem_map] at hs
  obtain ⟨i, -, rfl⟩ := hs
  simp [bSym] at h0
theorem bG_may {x : ByteArray} (hx : x.size ≤ 8) : mayB (bG x) = true := by
  have h1 : namesB [⟨#[83]⟩] = true := by decide +kernel
  have h2 : ∀ s ∈ bSeq x x.size, symB s 1 = true := by
    intro s hs
    simp only [bSeq, List.mem_map] at hs
    obtain ⟨i, -, rfl⟩ := hs
    have := btz_range x i
    unfold symB bSym
    simp
    omega
  have h3 : conjB 1 ⟨false, bSeq x x.size⟩ = true := by
    unfold conjB
    simp only [Bool.and_eq_true, decide_eq_true_eq, List.all_eq_true]
    exact ⟨by rw [bSeq_len]; omega, h2⟩
  have h4 : ruleB (bRul x x.size) 1 = true := by
    unfold ruleB bRul
    simp [h3]
  unfold mayB
  have h5 : stepsB (bG x).rules ((bG x).names.length) (bG x).rules.length = true := by
    show (List.range 1).all (stepB [bRul x x.size] 1) = true
    simp only [List.all_eq_true, List.mem_range]
    intro k hk
    obtain rfl : k = 0 := by omega
    unfold stepB
    simp only [List.getElem?_cons_zero, h4, Bool.true_and, Bool.and_eq_true, decide_eq_true_eq]
    refine ⟨⟨by simp [hdAt, bRul], by simp [hdAt, bRul]⟩, ?_⟩
    simp [tot, sSum, bRul, bSeq_len]
    omega
  rw [h5]
  simp only [bG, h1, Bool.and_true, Bool.true_and]
  simp [hdAt, bRul]
/-! Proofs that go along the row. -/
def chPicks (m i : Nat) : List Pck := if i < m then [⟨(i : Int) + 1, 0, [(i : Int) + 2]⟩] else []
def chSeq (s : Bool) (J : Int) (m : Nat) (rk : Nat → Int) (i : Nat) : Nod := ⟨s, 1, 0, ⟨0, 0, (i : Int)⟩, (i : Int), J, rk (i + 1), chPicks m i⟩
def chTop (s : Bool) (J : Int) (rk : Nat → Int) : Nod := ⟨s, 0, 0, ⟨0, 0, 0⟩, 0, J, rk 0, [⟨0, 0, [1]⟩]⟩
def chN (s : Bool) (J : Int) (m : Nat) (rk : Nat → Int) (n : Nat) : List Nod := chTop s J rk :: (List.range n).map (chSeq s J m rk)
def chC (s : Bool) (J : Int) (m : Nat) (rk : Nat → Int) : Crt := ⟨0, chN s J m rk (m + 1)⟩
section
variable {s : Bool} {J : Int} {m : Nat} {rk : Nat → Int}
theorem chN_len (n : Nat) : (chN s J m rk n).length = n + 1 := by simp [chN]
theorem chN_succ (n : Nat) : chN s J m rk (n + 1) = chN s J m rk n ++ [chSeq s J m rk n] := by simp [chN, List.range_succ]
theorem ch_top : ndAt (chC s J m rk) 0 = some (chTop s J rk) := rfl
theorem ch_at {i : Nat} (h : i ≤ m) : ndAt (chC s J m rk) ((i : Int) + 1) = some (chSeq s J m rk i) := by
  have e : ((i : Int) + 1) = ((i + 1 : Nat) : Int) := by omega
  rw [e]
  unfold ndAt
  rw [if_neg (by omega)]
  simp only [Int.toNat_natCast, chC, chN, List.getElem?_cons_succ, List.getElem?_map]
  rw [List.getElem?_range (by omega)]
  rfl
theorem ch_is {i : Nat} (h : i ≤ m) : isB (chC s J m rk) ((i : Int) + 1) s (seqKey ⟨0, 0, (i : Int)⟩ i J) = true := by
  unfold isB
  rw [ch_at h]
  simp [chSeq, Nod.ky, seqKey]
theorem ch_nodup : ((chC s J m rk).nodes.map Nod.ky).Nodup := by
  show (List.map Nod.ky (chTop s J rk :: (List.range (m + 1)).map (chSeq s J m rk))).Nodup
  rw [List.map_cons, List.map_map, List.nodup_cons]
  refine ⟨fun h => ?_, ?_⟩
  · obtain ⟨i, -, hi⟩ := List.mem_map.1 h
    have := congrArg Ky.kind hi
    simp [chSeq, chTop, Nod.ky] at this
  · unfold List.Nodup
    refine List.Pairwise.map _ (fun a b (hab : a < b) e => ?_) List.pairwise_lt_range
    have := congrArg (fun k => k.plc.pos) e
    simp [chSeq, Nod.ky] at this
    omega
theorem ch_mem {x : Nod} (h : x ∈ (chC s J m rk).nodes) : x = chTop s J rk ∨ ∃ i, i ≤ m ∧ x = chSeq s J m rk i := by
  rcases List.mem_cons.1 h with h | h
  · exact .inl h
  · obtain ⟨i, hi, rfl⟩ := List.mem_map.1 h
    exact .inr ⟨i, by have := List.mem_range.1 hi; omega, rfl⟩
theorem ch_mem_seq {i : Nat} (h : i ≤ m) : chSeq s J m rk i ∈ (chC s J m rk).nodes := List.mem_cons_of_mem _ (List.mem_map.2 ⟨i, List.mem_range.2 (by omega), rfl⟩)
theorem ch_kids : kidsB (chC s J m rk) = true := by
  unfold kidsB
  rw [decide_eq_true ch_nodup, Bool.true_and, List.all_eq_true]
  intro x hx
  have hl : (chC s J m rk).nodes.length = m + 2 := chN_len (m + 1)
  unfold kidsIn
  rw [hl]
  rcases ch_mem hx with rfl | ⟨i, hi, rfl⟩
  · simp [chTop]; omega
  · unfold chSeq chPicks
    by_cases h : i < m
    · simp [h]; omega
    · simp [h]
theorem ch_root {G : Gram} {W : ByteArray} (hs : G.start = 0) : rootB (chC s J m rk) G W = decide (J = W.size) := by
  unfold rootB
  rw [hs]
  have e : ∀ q, isB (chC s J m rk) (chC s J m rk).root q (nameKey 0 0 W.size) = ((s == q) && decide (J = W.size)) := by
    intro q
    unfold isB
    rw [show ndAt (chC s J m rk) (chC s J m rk).root = some (chTop s J rk) from rfl]
    simp only [chTop, Nod.ky, nameKey]
    congr 1
    by_cases h : J = W.size
    · simp [h]
    · simp [h]
  rw [e, e]
  cases s <;> simp
theorem ch_sign : signB (chC s J m rk) = s := rfl
end
theorem b_sym (x : ByteArray) (i : Nat) : symOf (bG x) ⟨0, 0, (i : Int)⟩ = (bSeq x x.size)[i]? := by
  unfold symOf cjAt bG
  simp [bRul]
theorem b_plc (x : ByteArray) {i : Nat} (h : i ≤ x.size) : plcB (bG x) ⟨0, 0, (i : Int)⟩ = true := by
  unfold plcB placeB bG
  simp [bRul, bSeq_len]
  omega
theorem b_read {x y : ByteArray} {i : Nat} {z : Nod} (hi : z.i = i) : readB y z (bSym x i) = (decide ((i : Int) < z.j) && decide (btz x i = btz y i)) := by
  unfold readB bSym
  rw [hi]
  by_cases h : btz x i = btz y i
  · simp [h]
  · rw [decide_eq_false h]
    by_cases h1 : btz x i ≤ btz y i
    · rw [decide_eq_false (p := btz y i ≤ btz x i) (by omega)]; simp
    · rw [decide_eq_false h1]; simp
/-- A text's proof that it is one, by ranks that fall: it is taken. -/
theorem in_taken {x : ByteArray} {rk : Nat → Int} (h1 : ∀ i, i ≤ x.size + 1 → 1 ≤ rk i) (h2 : ∀ i, i ≤ x.size → rk (i + 1) < rk i) : takenB (chC true x.size x.size rk) (bG x) x = true := by
  unfold takenB
  rw [ch_kids, ch_root rfl]
  simp only [Bool.true_and, decide_true, List.all_eq_true]
  intro z hz
  rcases ch_mem hz with rfl | ⟨i, hi, rfl⟩
  · have hl : lessK (chC true (x.size : Int) x.size rk) (rk 0) 1 = true := by
      unfold lessK
      have := ch_at (s := true) (J := (x.size : Int)) (m := x.size) (rk := rk) (i := 0) (Nat.zero_le _)
      rw [show (((0 : Nat) : Int) + 1) = 1 from rfl] at this
      rw [this]
      have := h2 0 (Nat.zero_le _)
      simp [chSeq]
      omega
    have hk : isB (chC true (x.size : Int) x.size rk) 1 true (seqKey ⟨0, 0, 0⟩ 0 x.size) = true := ch_is (i := 0) (Nat.zero_le _)
    have h3 := h1 0 (Nat.zero_le _)
    unfold nodeB
    rw [show shapeB (bG x) x (chTop true x.size rk) = true by simp [shapeB, chTop, bG]]
    simp only [chTop, if_true, Bool.true_and]
    unfold hasOK risingB rankedB ruleOK
    simp [bG, bRul, riseAt, ruleKid, lesserB, hl, hk, List.range_succ]
    exact h3
  · have h3 := h1 (i + 1) (by omega)
    unfold nodeB
    rw [show shapeB (bG x) x (chSeq true x.size x.size rk i) = true by
      unfold shapeB chSeq
      simp [b_plc x hi]
      omega]
    simp only [chSeq, Bool.true_and]
    simp only [show ((1 : Int) = 0) = False by simp, if_false]
    simp only [if_true]
    unfold goesB
    simp only [b_sym]
    by_cases hlt : i < x.size
    · rw [bSeq_at x hlt]
      simp only
      rw [if_pos (by simp [bSym]), b_read rfl]
      have hk : isB (chC true (x.size : Int) x.size rk) ((i : Int) + 2) true (seqKey ⟨0, 0, (i : Int) + 1⟩ ((i : Int) + 1) x.size) = true := by
        have := ch_is (s := true) (J := (x.size : Int)) (m := x.size) (rk := rk) (i := i + 1) (by omega)
        push_cast at this
        rwa [Int.add_assoc] at this
      have hl : lessK (chC true (x.size : Int) x.size rk) (rk (i + 1)) ((i : Int) + 2) = true := by
        unfold lessK
        have := ch_at (s := true) (J := (x.size : Int)) (m := x.size) (rk := rk) (i := i + 1) (by omega)
        push_cast at this
        rw [Int.add_assoc] at this
        rw [show ((1 : Int) + 1) = 2 from rfl] at this
        rw [this]
        have h9 := h2 (i + 1) (by omega)
        have h10 : ¬ rk (i + 1) ≤ rk (i + 1 + 1) := by omega
        simp [chSeq, h10]
      unfold onB rankedB chPicks behind
      simp [hlt, hk, hl, lesserB]
      omega
    · obtain rfl : i = x.size := by omega
      rw [bSeq_end]
      unfold rankedB chPicks
      simp
      omega
/-- Of any other text it is not taken. -/
theorem in_not {x y : ByteArray} {rk : Nat → Int} (h : x.size ≠ y.size ∨ ∃ i, i < x.size ∧ btz x i ≠ btz y i) : takenB (chC true x.size x.size rk) (bG x) y = false := by
  unfold takenB
  rcases h with h | ⟨i, hi, hne⟩
  · rw [ch_root rfl, decide_eq_false (by omega)]
    simp
  · have hb : nodeB (chC true x.size x.size rk) (bG x) y (chSeq true x.size x.size rk i) = false := by
      unfold nodeB
      simp only [chSeq]
      simp only [show ((1 : Int) = 0) = False by simp, if_false]
      simp only [if_true]
      unfold goesB
      simp only [b_sym]
      rw [bSeq_at x hi]
      simp only
      rw [if_pos (by simp [bSym]), b_read rfl, decide_eq_false hne]
      simp
    rw [all_bad' (ch_mem_seq (by omega)) hb]
    simp
/-- The proof that a text is not one: it goes as far as the bytes are alike. -/
theorem out_no {x y : ByteArray} (hxy : x.size = y.size) : takenB (chC false y.size x.size (fun _ => 0)) (bG x) y = false := by
  have hb : nodeB (chC false y.size x.size (fun _ => 0)) (bG x) y (chSeq false y.size x.size (fun _ => 0) x.size) = false := by
    unfold nodeB
    simp only [chSeq]
    simp only [show ((1 : Int) = 0) = False by simp, if_false]
    simp only [Bool.false_eq_true, if_false]
    unfold stopsB
    simp only [b_sym, bSeq_end]
    rw [hxy]
    simp
  unfold takenB
  rw [all_bad' (ch_mem_seq (Nat.le_refl _)) hb]
  simp
theorem out_yes {x y : ByteArray} {m : Nat} (h1 : m ≤ x.size) (h2 : m ≤ y.size) (h3 : ∀ i : Nat, i < m → btz x i = btz y i) (h4 : m < x.size → m < y.size → btz x m ≠ btz y m) (h5 : ¬ (m = x.size ∧ m = y.size)) : takenB (chC false y.size m (fun _ => 0)) (bG x) y = true := by
  unfold takenB
  rw [ch_kids, ch_root rfl]
  simp only [Bool.true_and, decide_true, List.all_eq_true]
  intro z hz
  rcases ch_mem hz with rfl | ⟨i, hi, rfl⟩
  · have hk : isB (chC false (y.size : Int) m (fun _ => 0)) 1 false (seqKey ⟨0, 0, 0⟩ 0 y.size) = true := ch_is (i := 0) (Nat.zero_le _)
    unfold nodeB
    rw [show shapeB (bG x) y (chTop false y.size (fun _ => 0)) = true by simp [shapeB, chTop, bG]]
    simp only [chTop, if_true, Bool.true_and, Bool.false_eq_true, if_false]
    unfold lacksB
    simp [bG, bRul, lackAt, headsN, failsB, hk, List.range_succ]
  · unfold nodeB
    rw [show shapeB (bG x) y (chSeq false y.size m (fun _ => 0) i) = true by
      unfold shapeB chSeq
      simp [b_plc x (show i ≤ x.size by omega)]
      omega]
    simp only [chSeq, Bool.true_and]
    simp only [show ((1 : Int) = 0) = False by simp, if_false]
    simp only [Bool.false_eq_true, if_false]
    unfold stopsB
    simp only [b_sym]
    by_cases hlt : i < x.size
    · rw [bSeq_at x hlt]
      simp only
      rw [if_pos (by simp [bSym]), b_read rfl]
      by_cases hm : i < m
      · have hk : isB (chC false (y.size : Int) m (fun _ => 0)) ((i : Int) + 2) false (seqKey ⟨0, 0, (i : Int) + 1⟩ ((i : Int) + 1) y.size) = true := by
          have := ch_is (s := false) (J := (y.size : Int)) (m := m) (rk := fun _ => 0) (i := i + 1) (by omega)
          push_cast at this
          rwa [Int.add_assoc] at this
        rw [decide_eq_true (h3 i hm), decide_eq_true (p := (i : Int) < (y.size : Int)) (by omega)]
        unfold onB chPicks behind
        simp [hm, hk]
      · obtain rfl : i = m := by omega
        have hr : (decide ((i : Int) < (y.size : Int)) && decide (btz x i = btz y i)) = false := by
          by_cases hy : i < y.size
          · rw [decide_eq_false (h4 hlt hy)]; simp
          · rw [decide_eq_false (p := (i : Int) < (y.size : Int)) (by omega)]; simp
        rw [hr]
        unfold chPicks
        simp
    · obtain rfl : i = x.size := by omega
      rw [bSeq_end]
      have hm : ¬ x.size < m := by omega
      unfold chPicks
      simp [hm]
      omega
/-- Texts are the same just if their bytes are. -/
theorem bytes_ext {x y : ByteArray} (h : x.size = y.size) (hb : ∀ i : Nat, i < x.size → btz x i = btz y i) : x = y := by
  apply ByteArray.ext
  apply Array.ext h
  intro i h1 h2
  have hb1 := hb i h1
  have h2' : i < y.size := h2
  have h1' : i < x.size := h1
  unfold btz at hb1
  simp only [Int.toNat_natCast, h1', h2', dite_true] at hb1
  have h3 : (x[i]'h1').toNat = (y[i]'h2').toNat := by omega
  exact UInt8.toNat_inj.1 h3
theorem bytes_ne {x y : ByteArray} (h : x ≠ y) : x.size ≠ y.size ∨ ∃ i : Nat, i < x.size ∧ btz x i ≠ btz y i := by
  by_cases hs : x.size = y.size
  · right
    by_cases hn : ∃ i : Nat, i < x.size ∧ btz x i ≠ btz y i
    · exact hn
    · exfalso
      refine h (bytes_ext hs fun i hi => ?_)
      by_cases e : btz x i = btz y i
      · exact e
      · exact absurd ⟨i, hi, e⟩ hn
  · exact .inl hs
end Go.Proofs.Ytfmfoiecphhhiaa
