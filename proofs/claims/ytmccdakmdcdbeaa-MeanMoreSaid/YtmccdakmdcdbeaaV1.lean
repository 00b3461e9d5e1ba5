/-
  V1: a grammar with a name more, whose rules stand behind the others: when it may be, what turns (nothing below the name). No program in sight.
-/
import Derived.Test.YtmccdakmdcdbeaaQ1
import Derived.Test.YtmccdakmdcdbeaaC2
set_option linter.unusedSimpArgs false
set_option linter.unusedVariables false
namespace Go.Proofs.Ytmccdakmdcdbeaa
open Go.RowKit

def extG (G : Gram) (rs : List Rul) : Gram := ⟨G.start, G.names ++ [n1w], G.rules ++ rs⟩
theorem oneG_ext (G : Gram) (cs : List Conj) : oneG G cs = extG G [⟨G.names.length, cs⟩] := rfl
theorem ext_old {G : Gram} {rs : List Rul} {r : Nat} {x : Rul} (h : G.rules[r]? = some x) : (extG G rs).rules[r]? = some x := by
  show (G.rules ++ rs)[r]? = some x
  rw [List.getElem?_append_left (List.getElem?_eq_some_iff.1 h).1]
  exact h
theorem ext_new {G : Gram} {rs : List Rul} {r : Nat} {x : Rul} (h : (extG G rs).rules[r]? = some x) : G.rules[r]? = some x ∨ (G.rules.length ≤ r ∧ rs[r - G.rules.length]? = some x) := by
  have h' : (G.rules ++ rs)[r]? = some x := h
  by_cases hr : r < G.rules.length
  · rw [List.getElem?_append_left hr] at h'; exact .inl h'
  · rw [List.getElem?_append_right (by omega)] at h'; exact .inr ⟨by omega, h'⟩
theorem ext_at {G : Gram} {rs : List Rul} (k : Nat) : (extG G rs).rules[G.rules.length + k]? = rs[k]? := by
  show (G.rules ++ rs)[G.rules.length + k]? = rs[k]?
  rw [List.getElem?_append_right (by omega)]
  congr 1
  omega

/-! When it may be. -/
theorem symB_up {s : Sym} {n : Int} (h : symB s n = true) : symB s (n + 1) = true := by
  unfold symB at h ⊢
  split
  · rename_i e; rw [if_pos e] at h; exact h
  · rename_i e
    rw [if_neg e] at h
    simp only [Bool.and_eq_true, decide_eq_true_eq] at h ⊢
    omega
theorem ruleB_up {x : Rul} {n : Int} (h : ruleB x n = true) : ruleB x (n + 1) = true := by
  unfold ruleB at h ⊢
  simp only [Bool.and_eq_true, decide_eq_true_eq, List.all_eq_true] at h ⊢
  refine ⟨h.1, fun y hy => ?_⟩
  have h1 := h.2 y hy
  unfold conjB at h1 ⊢
  simp only [Bool.and_eq_true, decide_eq_true_eq, List.all_eq_true] at h1 ⊢
  exact ⟨h1.1, fun s hs => symB_up (h1.2 s hs)⟩
theorem hdAt_app (rs rs' : List Rul) {k : Nat} (hk : k ≤ rs.length) : hdAt (rs ++ rs') k = hdAt rs k := by
  cases k with
  | zero => rfl
  | succ k => simp only [hdAt]; rw [List.getElem?_append_left (by omega)]
theorem tot_app (rs rs' : List Rul) {k : Nat} (hk : k ≤ rs.length) : tot (rs ++ rs') k = tot rs k := by
  induction k with
  | zero => rfl
  | succ k ih => simp only [tot]; rw [ih (by omega), List.getElem?_append_left (by omega)]
theorem n1w_ok : nameB n1w = true := by decide +kernel
/-- What is asked of the new names and rules, one rule. -/
structure OneOk (G : Gram) (cs : List Conj) : Prop where
  names : G.names.length < 64
  fresh : n1w ∉ G.names
  rules : G.rules.length < 256
  rule : ruleB ⟨G.names.length, cs⟩ (G.names.length + 1 : Nat) = true
  tot : tot G.rules G.rules.length + sSum cs cs.length ≤ 1024
theorem one_may {G : Gram} {cs : List Conj} (hG : mayB G = true) : mayB (oneG G cs) = true ↔ OneOk G cs := by
  have hG' := hG
  unfold mayB at hG
  simp only [Bool.and_eq_true, decide_eq_true_eq] at hG
  obtain ⟨⟨⟨⟨⟨⟨⟨hn, h0⟩, h1⟩, h2⟩, h3⟩, hs⟩, h4⟩, h5⟩ := hG
  unfold namesB at hn
  simp only [Bool.and_eq_true, decide_eq_true_eq] at hn
  obtain ⟨⟨⟨k1, k2⟩, k3⟩, k4⟩ := hn
  have e1 : (oneG G cs).names.length = G.names.length + 1 := by simp [oneG]
  have e2 : (oneG G cs).rules.length = G.rules.length + 1 := by simp [oneG]
  have eR : (oneG G cs).rules = G.rules ++ [⟨G.names.length, cs⟩] := rfl
  have hlast : (G.rules ++ [(⟨(G.names.length : Int), cs⟩ : Rul)])[G.rules.length]? = some ⟨(G.names.length : Int), cs⟩ := by
    rw [List.getElem?_append_right (Nat.le_refl _), Nat.sub_self]; rfl
  have hh : hdAt (oneG G cs).rules (G.rules.length + 1) = G.names.length := by rw [eR]; simp only [hdAt, hlast]
  have ht : tot (oneG G cs).rules (G.rules.length + 1) = tot G.rules G.rules.length + sSum cs cs.length := by rw [eR]; simp only [tot, hlast]; rw [tot_app _ _ (Nat.le_refl _)]
  have hold : ∀ k, k < G.rules.length → stepB (oneG G cs).rules ((G.names.length + 1 : Nat) : Int) k = true := by
    intro k hk
    have h6 := stepsB_at hs hk
    have hx : (oneG G cs).rules[k]? = G.rules[k]? := by rw [eR, List.getElem?_append_left hk]
    unfold stepB at h6 ⊢
    rw [hx]
    cases hxx : G.rules[k]? with
    | none => rw [hxx] at h6; cases h6
    | some x =>
      rw [hxx] at h6
      simp only [Bool.and_eq_true, decide_eq_true_eq] at h6 ⊢
      rw [eR, hdAt_app _ _ (by omega), tot_app _ _ (by omega)]
      refine ⟨⟨⟨?_, h6.1.1.2⟩, h6.1.2⟩, h6.2⟩
      have := ruleB_up h6.1.1.1
      push_cast
      exact this
  have hnew : stepB (oneG G cs).rules ((G.names.length + 1 : Nat) : Int) G.rules.length = true ↔ ruleB ⟨G.names.length, cs⟩ (G.names.length + 1 : Nat) = true ∧ tot G.rules G.rules.length + sSum cs cs.length ≤ 1024 := by
    unfold stepB
    rw [show (oneG G cs).rules[G.rules.length]? = some ⟨(G.names.length : Int), cs⟩ from hlast]
    simp only [Bool.and_eq_true, decide_eq_true_eq]
    rw [ht, show hdAt (oneG G cs).rules G.rules.length = hdAt G.rules G.rules.length by rw [eR, hdAt_app _ _ (Nat.le_refl _)]]
    constructor
    · rintro ⟨⟨⟨a, b⟩, c⟩, d⟩; exact ⟨a, d⟩
    · rintro ⟨a, b⟩; exact ⟨⟨⟨a, by omega⟩, by omega⟩, b⟩
  constructor
  · intro h
    unfold mayB at h
    simp only [Bool.and_eq_true, decide_eq_true_eq] at h
    obtain ⟨⟨⟨⟨⟨⟨⟨gn, g0⟩, g1⟩, g2⟩, g3⟩, gs⟩, g4⟩, g5⟩ := h
    unfold namesB at gn
    simp only [Bool.and_eq_true, decide_eq_true_eq] at gn
    rw [e1] at gn gs
    rw [e2] at g3 gs
    have gl := hnew.1 (stepsB_at gs (Nat.lt_succ_self _))
    refine ⟨by omega, ?_, by omega, gl.1, gl.2⟩
    have := gn.2
    rw [show (oneG G cs).names = G.names ++ [n1w] from rfl, List.nodup_append] at this
    exact fun hm => this.2.2 n1w hm n1w (List.mem_singleton.2 rfl) rfl
  · intro o
    unfold mayB namesB
    simp only [Bool.and_eq_true, decide_eq_true_eq]
    rw [e1, e2]
    refine ⟨⟨⟨⟨⟨⟨⟨⟨⟨⟨by omega, by have := o.names; omega⟩, ?_⟩, ?_⟩, h0⟩, by show G.start < _; push_cast; omega⟩, by omega⟩, by have := o.rules; omega⟩, ?_⟩, ?_⟩, ?_⟩
    · rw [show (oneG G cs).names = G.names ++ [n1w] from rfl, List.all_append, k3]
      simp [n1w_ok]
    · rw [show (oneG G cs).names = G.names ++ [n1w] from rfl, List.nodup_append]
      refine ⟨k4, by simp, fun a ha b hb e => ?_⟩
      rw [List.mem_singleton.1 hb] at e
      rw [e] at ha
      exact o.fresh ha
    · rw [stepsB_succ, Bool.and_eq_true]
      refine ⟨?_, hnew.2 ⟨o.rule, o.tot⟩⟩
      unfold stepsB
      rw [List.all_eq_true]
      intro k hk
      exact hold k (List.mem_range.1 hk)
    · rw [eR, hdAt_app _ _ (by omega)]; exact h4
    · rw [hh]; push_cast; omega

/-! No new ring of negations. -/
/-- The new rules speak of the new name and of the elder ones; negated, of the elder ones alone. -/
def NewOk (n : Nat) (rs : List Rul) : Prop := ∀ x ∈ rs, x.head = n ∧ ∀ y ∈ x.conj, ∀ s ∈ y.seq, s.name ≤ n ∧ (y.neg = true → s.name < n)
theorem ext_path {G : Gram} {rs : List Rul} (M : MayG G) (hn : NewOk G.names.length rs) {a b : Nat} (h : Path (edgesOf (extG G rs)) a b) : a < G.names.length → Path (edgesOf G) a b ∧ b < G.names.length := by
  induction h with
  | refl a => exact fun ha => ⟨.refl a, ha⟩
  | @step e b he hp ih =>
    intro ha
    obtain ⟨x, hx, y, hy, s, hs, h0, hee⟩ := mem_edgesOf.1 he
    rcases List.mem_append.1 (show x ∈ G.rules ++ rs from hx) with hx | hx
    · have hin : e ∈ edgesOf G := mem_edgesOf.2 ⟨x, hx, y, hy, s, hs, h0, hee⟩
      have := ih (edgesIn_of M e hin).2
      exact ⟨.step hin this.1, this.2⟩
    · have h1 := (hn x hx).1
      have h2 : e.fr = x.head.toNat := by rw [hee]
      omega
theorem ext_cyc {G : Gram} {rs : List Rul} (M : MayG G) (hn : NewOk G.names.length rs) (hc : ¬ NegCyc (edgesOf G)) : ¬ NegCyc (edgesOf (extG G rs)) := by
  rintro ⟨e, he, hneg, hp⟩
  obtain ⟨x, hx, y, hy, s, hs, h0, hee⟩ := mem_edgesOf.1 he
  rcases List.mem_append.1 (show x ∈ G.rules ++ rs from hx) with hx | hx
  · have hin : e ∈ edgesOf G := mem_edgesOf.2 ⟨x, hx, y, hy, s, hs, h0, hee⟩
    exact hc ⟨e, hin, hneg, (ext_path M hn hp (edgesIn_of M e hin).2).1⟩
  · obtain ⟨h1, h2⟩ := hn x hx
    have h3 := h2 y hy s hs
    have hyn : y.neg = true := by rw [hee] at hneg; exact hneg
    have e1 : e.fr = x.head.toNat := by rw [hee]
    have e2 : e.to = s.name.toNat := by rw [hee]
    have := (ext_path M hn hp (by have := h3.2 hyn; omega)).2
    omega

/-! What the elder names have stays. -/
section
variable {w w' : World} {t u : TS} {fin fin' : Rk × Rk}
theorem ext_eq {rs : List Rul} (T : Tab w t fin) (U : Tab w' u fin') (hG : u.G = extG t.G rs) (hW : u.W = t.W) (hn : ∀ x ∈ rs, x.head = t.K) :
    ∀ (k : Nat) (i j : Int), k < t.K → 0 ≤ i → i ≤ j → j ≤ t.W.size → fin.1 k i j = fin'.1 k i j := by
  have V := T.sol.view T.H (rs := t.G.rules) (K := t.K) (δ := 0) (hi := t.W.size) (fun _ _ h => h) (Nat.le_refl _) (fun _ _ h _ => h) (Int.le_refl _) (by omega)
  have hK : u.K = t.K + 1 := by unfold TS.K; rw [hG]; simp [extG]
  have V' := U.sol.view U.H (rs := t.G.rules) (K := t.K) (δ := 0) (hi := t.W.size) (fun r x h => by rw [hG]; exact ext_old h) (by omega) (fun r x h hk => by
    rw [hG] at h
    rcases ext_new h with h | ⟨_, h⟩
    · exact h
    · have := hn x (List.mem_of_getElem? h); omega) (Int.le_refl _) (by rw [hW]; omega)
  simp only [Int.add_zero] at V V'
  rw [hW] at V'
  have h := View.eq V V' (fun _ _ _ => rfl) (fun h => t.lev.getD h 0) (fun r x hx => lev_low T.H hx) (fun r x c y s hx hy hs => lev_sy T.H hx hy hs) t.K
  intro k i j hk i0 ij j1
  exact h.1 k i j hk (by have := (T.H.good.low k hk).2; unfold TS.K; omega) i0 ij j1
end
section
variable {rs : List Rul} {K : Nat} {bt : Int → Int} {hi : Int} {N : Rk} {P : Nat → Nat → Nat → Int → Int → Int} (V : View rs K bt hi N P)
include V
/-- A conjunct that is one name. -/
theorem seq_one {r c k : Nat} {x : Rul} {neg : Bool} {a b : Int} (hx : rs[r]? = some x) (hy : x.conj[c]? = some ⟨neg, [⟨(k : Int), a, b⟩]⟩) {i j : Int} (i0 : 0 ≤ i) (ij : i ≤ j) (j1 : j ≤ hi) :
    (0 < P r c 0 i j ↔ 0 < N k i j) ∧ (0 < P r c 0 i j → P r c 0 i j = 1 + max (N k i j) 1) := by
  have b1 : BestIs (fun d => N k i (i + d)) (fun d => P r c 1 (i + d) j) (j - i + 1).toNat (P r c 0 i j) := by
    have := V.pName r x c _ 0 _ i j hx hy rfl (by simp) i0 ij j1
    simpa using this
  have e2 : ∀ m : Int, i ≤ m → m ≤ j → P r c 1 m j = if m = j then 1 else 0 := fun m h1 h2 => V.pEnd r x c _ m j hx hy (by omega) h2 j1
  have hj : i + ((j - i).toNat : Int) = j := by omega
  have key : 0 < P r c 0 i j → 0 < N k i j ∧ P r c 0 i j = 1 + max (N k i j) 1 := by
    intro h
    obtain ⟨d, hd, a1, a2, a3⟩ := b1.is h
    have h3 := e2 (i + d) (by omega) (by omega)
    by_cases he : i + d = j
    · rw [if_pos he] at h3
      rw [h3] at a3
      rw [he] at a1 a3
      exact ⟨a1, a3⟩
    · rw [if_neg he] at h3; omega
  refine ⟨⟨fun h => (key h).1, fun h => ?_⟩, fun h => (key h).2⟩
  have h3 := e2 j ij (Int.le_refl _)
  rw [if_pos rfl] at h3
  exact (b1.le (j - i).toNat (by omega) (by simp only [hj]; exact h) (by simp only [hj]; omega)).1
/-- A conjunct that is a row of two names. -/
theorem seq_two {r c p q : Nat} {x : Rul} {neg : Bool} {a b a' b' : Int} (hx : rs[r]? = some x) (hy : x.conj[c]? = some ⟨neg, [⟨(p : Int), a, b⟩, ⟨(q : Int), a', b'⟩]⟩) {i j : Int} (i0 : 0 ≤ i) (ij : i ≤ j) (j1 : j ≤ hi) :
    0 < P r c 0 i j ↔ ∃ m, i ≤ m ∧ m ≤ j ∧ 0 < N p i m ∧ 0 < N q m j := by
  have b1 : BestIs (fun d => N p i (i + d)) (fun d => P r c 1 (i + d) j) (j - i + 1).toNat (P r c 0 i j) := by
    have := V.pName r x c _ 0 _ i j hx hy rfl (by simp) i0 ij j1
    simpa using this
  have b2 : ∀ m : Int, i ≤ m → m ≤ j → BestIs (fun d => N q m (m + d)) (fun d => P r c 2 (m + d) j) (j - m + 1).toNat (P r c 1 m j) := fun m h1 h2 => by
    have := V.pName r x c _ 1 _ m j hx hy rfl (by simp) (by omega) h2 j1
    simpa using this
  have e2 : ∀ m : Int, i ≤ m → m ≤ j → P r c 2 m j = if m = j then 1 else 0 := fun m h1 h2 => V.pEnd r x c _ m j hx hy (by omega) h2 j1
  constructor
  · intro h
    obtain ⟨d, hd, a1, a2, a3⟩ := b1.is h
    obtain ⟨d', hd', c1, c2, c3⟩ := (b2 (i + d) (by omega) (by omega)).is a2
    have h3 := e2 (i + d + d') (by omega) (by omega)
    by_cases he : i + d + d' = j
    · rw [he] at c1
      exact ⟨i + d, by omega, by omega, a1, c1⟩
    · rw [if_neg he] at h3; omega
  · rintro ⟨m, im, mj, h1, h2⟩
    have hj : m + ((j - m).toNat : Int) = j := by omega
    have hm : i + ((m - i).toNat : Int) = m := by omega
    have h3 := e2 j ij (Int.le_refl _)
    rw [if_pos rfl] at h3
    have k2 := ((b2 m im mj).le (j - m).toNat (by omega) (by simp only [hj]; exact h2) (by simp only [hj]; omega)).1
    exact (b1.le (m - i).toNat (by omega) (by simp only [hm]; exact h1) (by simp only [hm]; exact k2)).1
/-- A name of one rule. -/
theorem name_one {r0 n : Nat} {cs : List Conj} (hx : rs[r0]? = some ⟨(n : Int), cs⟩) (only : ∀ r x, rs[r]? = some x → x.head.toNat = n → r = r0) (hn : n < K) {i j : Int} (i0 : 0 ≤ i) (ij : i ≤ j) (j1 : j ≤ hi) :
    (0 < N n i j ↔ HoldsTo (fun c => P r0 c 0 i j) cs cs.length) ∧ (0 < N n i j → N n i j = topTo (fun c => P r0 c 0 i j) cs.length) := by
  have key : 0 < N n i j → HoldsTo (fun c => P r0 c 0 i j) cs cs.length ∧ N n i j = topTo (fun c => P r0 c 0 i j) cs.length := by
    intro h
    obtain ⟨r, x, hr, hh, ho, e⟩ := V.nIs n i j hn i0 ij j1 h
    have := only r x hr hh
    subst this
    rw [hx] at hr
    injection hr with hr
    subst hr
    exact ⟨ho, e⟩
  refine ⟨⟨fun h => (key h).1, fun h => ?_⟩, fun h => (key h).2⟩
  have := V.nLe r0 _ i j hx (by simpa using hn) i0 ij j1 h
  simpa using this.1
end
theorem holds_1 {f : Nat → Int} {y : Conj} : HoldsTo f [y] [y].length ↔ (decide (0 < f 0) == y.neg) = false := by
  constructor
  · intro h; exact h 0 y (by simp) rfl
  · intro h c z hc hz
    match c, hz with
    | 0, hz => simp at hz; subst hz; exact h
    | n + 1, hz => simp at hc
theorem holds_2 {f : Nat → Int} {y z : Conj} : HoldsTo f [y, z] [y, z].length ↔ (decide (0 < f 0) == y.neg) = false ∧ (decide (0 < f 1) == z.neg) = false := by
  constructor
  · intro h; exact ⟨h 0 y (by simp) rfl, h 1 z (by simp) rfl⟩
  · intro h c x hc hx
    match c, hx with
    | 0, hx => simp at hx; subst hx; exact h.1
    | 1, hx => simp at hx; subst hx; exact h.2
    | n + 2, hx => simp at hc; omega
end Go.Proofs.Ytmccdakmdcdbeaa
