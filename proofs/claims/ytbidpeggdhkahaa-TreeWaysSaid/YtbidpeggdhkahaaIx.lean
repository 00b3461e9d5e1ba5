/-
  Iv: of several rules the first one that serves is gone: plain. The grammar of templelaw22's TreeWays.
  Iw: the tree of several ways (templelaw22's TreeWays): plain. No program in sight.
  Ix: templelaw22.TreeWays answers true (under way: holds sorry).
-/
import Derived.Test.YtbidpeggdhkahaaIj
import Derived.Test.YtbidpeggdhkahaaIn
set_option linter.unusedSimpArgs false
set_option linter.unusedVariables false
namespace Go.Proofs.Ytbidpeggdhkahaa
open Go.RowKit

section
variable {R : Ky → Int} {G : Gram} {W : ByteArray}
theorem rulesTo_front (k : Ky) (sign : Bool) {m : Nat} : ∀ n, m ≤ n → ∃ t, rulesTo R G k sign n = rulesTo R G k sign m ++ t := by
  intro n
  induction n with
  | zero => intro h; obtain rfl : m = 0 := by omega
            exact ⟨[], by simp⟩
  | succ n ih =>
    intro h
    by_cases e : m = n + 1
    · subst e; exact ⟨[], by simp⟩
    · obtain ⟨t, ht⟩ := ih (by omega)
      exact ⟨t ++ (match G.rules[n]? with
        | none => []
        | some x => ruleStep R k sign n x), by rw [rulesTo, ht, List.append_assoc]; rfl⟩
/-- What stands ahead of the chosen rule does not serve. -/
theorem pick_first {k : Ky} (h : 0 < R k) (hk : k.kind = 0) {r : Nat} {ks : List Ky} (e : picksB R G W false k = [⟨r, 0, ks⟩]) {r' : Nat} {x' : Rul} (hr : r' < r) (hx : G.rules[r']? = some x') (hh : x'.head = k.name) (hH : holdsK R k r' x' = true) :
    ∃ c, c < x'.conj.length ∧ R k ≤ R (ckey r' c k) := by
  by_cases hc : ∃ c, c < x'.conj.length ∧ R k ≤ R (ckey r' c k)
  · exact hc
  · exfalso
    have hs0 : (⟨r', 0, conjKeys k r' x'⟩ : Stp) ∈ ruleStep R k true r' x' := by
      unfold ruleStep
      rw [if_pos ⟨hh, hH⟩]
      simp
    have hl : lessKB R (conjKeys k r' x') (R k) = true := by
      rw [lessKB_iff]
      intro q hq
      unfold conjKeys at hq
      obtain ⟨c, hcl, rfl⟩ := List.mem_map.1 hq
      by_cases h1 : R (ckey r' c k) < R k
      · exact h1
      · exact absurd ⟨c, List.mem_range.1 hcl, by omega⟩ hc
    obtain ⟨s, hs, hls, e1⟩ := chosenB_one (R := R) (rulesTo_has hx hs0 (n := r' + 1) (Nat.lt_succ_self _)) hl
    obtain ⟨r2, x2, hr2, hx2, hs2⟩ := rulesTo_mem hs
    have hsp : s.sp = (r2 : Int) := by
      unfold ruleStep at hs2
      split at hs2
      · simp only [if_true, List.mem_singleton] at hs2
        rw [hs2]
      · cases hs2
    have hn := (List.getElem?_eq_some_iff.1 hx).1
    obtain ⟨t, ht⟩ := rulesTo_front (R := R) (G := G) k true (m := r' + 1) G.rules.length (by omega)
    unfold picksB at e
    rw [if_pos hk, if_pos h, ht] at e
    unfold chosenB at e e1
    simp only [Bool.false_eq_true, if_false] at e e1
    rw [List.find?_append] at e
    cases hf : (rulesTo R G k true (r' + 1)).find? (fun s => lessKB R s.kids (R k)) with
    | none => rw [hf] at e1; cases e1
    | some s' =>
      rw [hf] at e e1
      have e1 : [s'] = [s] := e1
      injection e1 with e1
      subst e1
      have e : [s'] = [(⟨(r : Int), 0, ks⟩ : Stp)] := e
      injection e with e
      rw [e] at hsp
      have hsp : (r : Int) = r2 := hsp
      omega
end
/-- A conjunct of one name. -/
def oneC (neg : Bool) (nm : Int) : Conj := ⟨neg, [⟨nm, 0, 0⟩]⟩
def conjW (k : Nat) : List Conj := (List.range k).map (fun c => oneC false (1 + (c % 2 : Nat))) ++ [oneC true 3]
/-- S → S | r | r, X → 'a', Y → 'a', Z → "". -/
def gWy (k : Nat) : Gram := ⟨0, [⟨#[83]⟩, ⟨#[88]⟩, ⟨#[89]⟩, ⟨#[90]⟩], [⟨0, [oneC false 0]⟩, ⟨0, conjW k⟩, ⟨0, conjW k⟩, ⟨1, [⟨false, [sA]⟩]⟩, ⟨2, [⟨false, [sA]⟩]⟩, ⟨3, [⟨false, []⟩]⟩]⟩
def wA : ByteArray := ⟨#[97]⟩
theorem gWy_may : ∀ k : Fin 5, 1 ≤ k.val → mayB (gWy k.val) = true := by decide +kernel
section
variable {R : Ky → Int} {G : Gram} {W : ByteArray}
/-- A rest that is one name over all of its span. -/
theorem one_along (H : RkOK R G W) {k : Ky} {x : Rul} {y : Conj} {r c : Nat} {nm : Int} (hx : G.rules[r]? = some x) (hy : x.conj[c]? = some y) (hs : y.seq = [⟨nm, 0, 0⟩]) (hn : 0 ≤ nm) (h : 0 < R (ckey r c k)) :
    0 < R (nameKey nm k.i k.j) ∧ R (nameKey nm k.i k.j) < R (ckey r c k) ∧ ∀ n, alongTo R G W (n + 1) (ckey r c k) = [nameKey nm k.i k.j] := by
  have s1 : symOf G (ckey r c k).plc = some ⟨nm, 0, 0⟩ := (symOf_at (q := 0) hx hy).trans (by rw [hs]; rfl)
  obtain ⟨z, f1, f2, f3, f4, f5, f6⟩ := along_split H h (by simp [ckey, seqKey]) s1 hn
  have s2 : symOf G (onP (ckey r c k).plc) = none := (symOf_at (q := 1) hx hy).trans (by rw [hs]; rfl)
  obtain ⟨e1, e2⟩ := along_end H f4 (by simp [seqKey]) s2
  have e1 : z = k.j := e1
  subst e1
  exact ⟨f3, f5, fun n => by rw [f6, e2]; rfl⟩
end
theorem conjW_at {k c : Nat} {y : Conj} (h : (conjW k)[c]? = some y) : (c < k ∧ y = oneC false (1 + (c % 2 : Nat))) ∨ (c = k ∧ y = oneC true 3) := by
  unfold conjW at h
  by_cases hc : c < k
  · rw [List.getElem?_append_left (by simpa using hc)] at h
    simp [hc] at h
    exact .inl ⟨hc, h.symm⟩
  · rw [List.getElem?_append_right (by simp; omega)] at h
    simp only [List.length_map, List.length_range] at h
    cases e : c - k with
    | zero =>
      rw [e] at h
      have h : some (oneC true 3) = some y := h
      injection h with h
      exact .inr ⟨by omega, h.symm⟩
    | succ q => rw [e] at h; simp at h
theorem conjW_lt {k c : Nat} (hc : c < k) : (conjW k)[c]? = some (oneC false (1 + (c % 2 : Nat))) := by
  unfold conjW
  rw [List.getElem?_append_left (by simpa using hc)]
  simp [hc]
theorem conjW_end (k : Nat) : (conjW k)[k]? = some (oneC true 3) := by
  unfold conjW
  rw [List.getElem?_append_right (by simp)]
  simp
theorem conjW_len (k : Nat) : (conjW k).length = k + 1 := by simp [conjW]
section
variable {R : Ky → Int} {k : Nat}
/-- X and Y. -/
theorem way_leaf (H : RkOK R (gWy k) wA) (C : RkC R (gWy k) wA) (m : Nat) (hm : m = 1 ∨ m = 2) : 0 < R (nameKey (m : Int) 0 1) ∧ treeOf R (gWy k) wA (nameKey (m : Int) 0 1) = [⟨m, 2 + m, 0, 1, 0⟩] := by
  have hx : (gWy k).rules[2 + m]? = some ⟨m, [⟨false, [sA]⟩]⟩ := by rcases hm with rfl | rfl <;> rfl
  have p : 0 < R (nameKey (m : Int) 0 1) := by
    refine C.name (2 + m) ⟨m, [⟨false, [sA]⟩]⟩ 0 1 hx (by decide) (by decide) (by decide) fun c y hy => ?_
    match c, hy with
    | 0, hy =>
      have hy : some (⟨false, [sA]⟩ : Conj) = some y := hy
      injection hy with hy
      subst hy
      have e3 := C.fin (2 + m) 0 _ ⟨false, [sA]⟩ 1 hx rfl (by decide) (by decide)
      have e1 := C.byte (2 + m) 0 0 _ ⟨false, [sA]⟩ sA 0 1 hx rfl rfl (by decide) (by decide) (by decide) (by decide) (by decide) (by decide) e3
      have e1 : 0 < R (seqKey ⟨(2 + m : Nat), (0 : Nat), 0⟩ 0 1) := e1
      simpa using e1
    | c + 1, hy => simp at hy
  refine ⟨p, ?_⟩
  obtain ⟨r, x, hx', hh, hH, -, -, hb, -⟩ := beneath_ok H p rfl
  have hr : r = 2 + m := by
    have hh : x.head = (m : Int) := hh
    match r, hx' with
    | 0, hx' => have hx' : some _ = some x := hx'; injection hx' with hx'; subst hx'; have hh : (0 : Int) = m := hh; omega
    | 1, hx' => have hx' : some _ = some x := hx'; injection hx' with hx'; subst hx'; have hh : (0 : Int) = m := hh; omega
    | 2, hx' => have hx' : some _ = some x := hx'; injection hx' with hx'; subst hx'; have hh : (0 : Int) = m := hh; omega
    | 3, hx' => have hx' : some _ = some x := hx'; injection hx' with hx'; subst hx'; have hh : (1 : Int) = m := hh; omega
    | 4, hx' => have hx' : some _ = some x := hx'; injection hx' with hx'; subst hx'; have hh : (2 : Int) = m := hh; omega
    | 5, hx' => have hx' : some _ = some x := hx'; injection hx' with hx'; subst hx'; have hh : (3 : Int) = m := hh; omega
    | r + 6, hx' => simp [gWy] at hx'
  subst hr
  rw [hx] at hx'
  injection hx' with hx'
  subst hx'
  have h0 := holdsK_at hH (c := 0) (y := ⟨false, [sA]⟩) rfl rfl
  obtain ⟨g1, g2, g3, g4, g5⟩ := along_byte H (s := sA) h0 (by simp [ckey, seqKey]) (by exact (symOf_at (q := 0) hx (c := 0) rfl)) (by decide)
  obtain ⟨e1, e2⟩ := along_end H g4 (by simp [seqKey]) (by exact (symOf_at (q := 1) hx (c := 0) rfl))
  have hb2 : beneathB R (gWy k) wA (nameKey (m : Int) 0 1) = (((2 + m : Nat) : Int), []) := by
    rw [hb]
    show (((2 + m : Nat) : Int), [] ++ alongTo R (gWy k) wA (65 + 1) (ckey (2 + m) 0 (nameKey (m : Int) 0 1))) = _
    rw [g5, e2]
    rfl
  rw [treeOf_eq H p rfl, brnOf, hb2]
  simp [nameKey]
/-- Z is not. -/
theorem way_none (H : RkOK R (gWy k) wA) : ¬ 0 < R (nameKey 3 0 1) := by
  intro p
  obtain ⟨r, x, hx', hh, hH, -, -, hb, -⟩ := beneath_ok H p rfl
  have hh : x.head = 3 := hh
  match r, hx', hH with
  | 0, hx', _ => have hx' : some _ = some x := hx'; injection hx' with hx'; subst hx'; exact absurd hh (by simp)
  | 1, hx', _ => have hx' : some _ = some x := hx'; injection hx' with hx'; subst hx'; exact absurd hh (by simp)
  | 2, hx', _ => have hx' : some _ = some x := hx'; injection hx' with hx'; subst hx'; exact absurd hh (by simp)
  | 3, hx', _ => have hx' : some _ = some x := hx'; injection hx' with hx'; subst hx'; exact absurd hh (by simp)
  | 4, hx', _ => have hx' : some _ = some x := hx'; injection hx' with hx'; subst hx'; exact absurd hh (by simp)
  | 5, hx', hH =>
    have hx5 : (gWy k).rules[5]? = some ⟨3, [⟨false, []⟩]⟩ := rfl
    rw [hx5] at hx'
    injection hx' with hx'
    subst hx'
    have h0 := holdsK_at hH (c := 0) (y := ⟨false, []⟩) rfl rfl
    obtain ⟨e1, -⟩ := along_end H h0 (by simp [ckey, seqKey]) (by exact (symOf_at (q := 0) hx5 (c := 0) rfl))
    exact absurd e1 (by simp [ckey, seqKey, nameKey])
  | r + 6, hx', _ => simp [gWy] at hx'
end
end Go.Proofs.Ytbidpeggdhkahaa

set_option linter.unusedSimpArgs false
set_option linter.unusedVariables false
namespace Go.Proofs.Ytbidpeggdhkahaa
open Go.RowKit

/-- The two names that take turns. -/
def nmW (c : Nat) : Nat := 1 + c % 2
theorem nmW_or (c : Nat) : nmW c = 1 ∨ nmW c = 2 := by unfold nmW; omega
def wayT (k : Nat) : List Brn := ⟨0, 1, 0, 1, k⟩ :: (List.range k).map (fun c => ⟨nmW c, 2 + nmW c, 0, 1, 0⟩)
section
variable {N : Rk} {P : Nat → Nat → Nat → Int → Int → Int} {k : Nat}
/-- A rest of one name is at most one above it. -/
theorem way_le (V : View (gWy k).rules (gWy k).names.length (fun i => btz wA i) wA.size N P) {r c : Nat} {x : Rul} {nm : Nat} {neg : Bool} (hx : (gWy k).rules[r]? = some x) (hy : x.conj[c]? = some (oneC neg (nm : Int))) (h : 0 < N nm 0 1) : P r c 0 0 1 ≤ 1 + N nm 0 1 := by
  have hb := V.pName r x c (oneC neg nm) 0 ⟨nm, 0, 0⟩ 0 1 hx hy rfl (by simp) (by decide) (by decide) (by decide)
  have he := V.pEnd r x c (oneC neg nm) 1 1 hx hy (by decide) (by decide) (by decide)
  have he : P r c 1 1 1 = 1 := he.trans (if_pos rfl)
  have h2 := (hb.le 1 (by decide) (by show 0 < N ((nm : Int)).toNat 0 (0 + (1 : Nat)); exact h) (by show 0 < P r c (0 + 1) (0 + (1 : Nat)) 1; rw [show (0 : Int) + (1 : Nat) = 1 by rfl, Nat.zero_add, he]; decide)).2
  have h3 : max (N nm 0 1) (P r c 1 1 1) = N nm 0 1 := by rw [he]; omega
  have h2 : P r c 0 0 1 ≤ 1 + max (N nm 0 1) (P r c 1 1 1) := h2
  rw [h3] at h2
  exact h2
theorem way_root (M : MayG (gWy k)) (V : View (gWy k).rules (gWy k).names.length (fun i => btz wA i) wA.size N P) (H : RkOK (rankV (gWy k) wA N P) (gWy k) wA) (C : RkC (rankV (gWy k) wA N P) (gWy k) wA) :
    0 < rankV (gWy k) wA N P (nameKey 0 0 1) ∧ treeOf (rankV (gWy k) wA N P) (gWy k) wA (nameKey 0 0 1) = wayT k := by
  have hx1 : (gWy k).rules[1]? = some ⟨0, conjW k⟩ := rfl
  have hx2 : (gWy k).rules[2]? = some ⟨0, conjW k⟩ := rfl
  have leaf := fun c => way_leaf H C (nmW c) (nmW_or c)
  have hat : ∀ {c : Nat}, c < k → (conjW k)[c]? = some (oneC false (nmW c : Nat)) := fun {c} hc => by rw [conjW_lt hc]; rfl
  -- which conjuncts are so, at either rule
  have pos : ∀ r, (r = 1 ∨ r = 2) → ∀ c, c < k → 0 < rankV (gWy k) wA N P (ckey r c (nameKey 0 0 1)) := by
    intro r hr c hc
    have hx : (gWy k).rules[r]? = some ⟨0, conjW k⟩ := by rcases hr with rfl | rfl <;> rfl
    have e3 := C.fin r c _ (oneC false (nmW c : Nat)) 1 hx (hat hc) (by decide) (by decide)
    have e1 := C.split r c 0 _ (oneC false (nmW c : Nat)) ⟨nmW c, 0, 0⟩ 0 1 1 hx (hat hc) rfl (by simp) (by decide) (by decide) (by decide) (by decide) (leaf c).1 e3
    exact e1
  have zero : ∀ r, (r = 1 ∨ r = 2) → ¬ 0 < rankV (gWy k) wA N P (ckey r k (nameKey 0 0 1)) := by
    intro r hr h
    have hx : (gWy k).rules[r]? = some ⟨0, conjW k⟩ := by rcases hr with rfl | rfl <;> rfl
    exact way_none H (one_along H hx (conjW_end k) rfl (by decide) h).1
  have holds : ∀ r, (r = 1 ∨ r = 2) → holdsK (rankV (gWy k) wA N P) (nameKey 0 0 1) r ⟨0, conjW k⟩ = true := by
    intro r hr
    unfold holdsK
    rw [List.all_eq_true]
    intro c hc
    have hc : c < k + 1 := by
      have := List.mem_range.1 hc
      rw [conjW_len] at this
      exact this
    unfold cOK
    by_cases h : c < k
    · rw [hat h]
      show (decide (0 < _) != false) = true
      rw [decide_eq_true (pos r hr c h)]; rfl
    · obtain rfl : c = k := by omega
      rw [conjW_end]
      show (decide (0 < _) != true) = true
      rw [decide_eq_false (zero r hr)]; rfl
  have p : 0 < rankV (gWy k) wA N P (nameKey 0 0 1) := by
    refine C.name 1 ⟨0, conjW k⟩ 0 1 hx1 (by decide) (by decide) (by decide) fun c y hy => ?_
    rcases conjW_at hy with ⟨hc, rfl⟩ | ⟨rfl, rfl⟩
    · show (decide (0 < rankV (gWy k) wA N P (ckey 1 c (nameKey 0 0 1))) != false) = true
      rw [decide_eq_true (pos 1 (.inl rfl) c hc)]; rfl
    · show (decide (0 < rankV (gWy c) wA N P (ckey 1 c (nameKey 0 0 1))) != true) = true
      rw [decide_eq_false (zero 1 (.inl rfl))]; rfl
  refine ⟨p, ?_⟩
  obtain ⟨r, x, hx', hh, hH, hl, hp, hb, -⟩ := beneath_ok H p rfl
  have hh : x.head = 0 := hh
  have hr : r = 1 := by
    match r, hx', hl, hp with
    | 0, hx', hl, _ =>
      exfalso
      have hx0 : (gWy k).rules[0]? = some ⟨0, [oneC false 0]⟩ := rfl
      rw [hx0] at hx'
      injection hx' with hx'
      subst hx'
      have h1 := one_along H hx0 (c := 0) (y := oneC false 0) rfl rfl (by decide) (holdsK_at hH (c := 0) (y := oneC false 0) rfl rfl)
      have h2 := hl 0 (by simp)
      have h3 := h1.2.1
      have h3 : rankV (gWy k) wA N P (nameKey 0 0 1) < rankV (gWy k) wA N P (ckey 0 0 (nameKey 0 0 1)) := h3
      omega
    | 1, _, _, _ => rfl
    | 2, hx', hl, hp =>
      exfalso
      rw [hx2] at hx'
      injection hx' with hx'
      subst hx'
      obtain ⟨c, hc, hle⟩ := pick_first p rfl hp (r' := 1) (by decide) hx1 rfl (holds 1 (.inl rfl))
      have hc : c < k + 1 := by rw [← conjW_len k]; exact hc
      by_cases h : c < k
      · have h1 := hl c (by show c < (conjW k).length; rw [conjW_len]; omega)
        have h2 := (one_along H hx2 (hat h) rfl (by simp) (pos 2 (.inr rfl) c h)).2.1
        have h2 : rankV (gWy k) wA N P (nameKey (nmW c : Nat) 0 1) < rankV (gWy k) wA N P (ckey 2 c (nameKey 0 0 1)) := h2
        have hn : nmW c < (gWy k).names.length := by show nmW c < 4; rcases nmW_or c with h | h <;> omega
        have e1 : rankV (gWy k) wA N P (nameKey (nmW c : Nat) 0 1) = N (nmW c) 0 1 := rankV_name hn (by decide) (by decide) (by decide) _ rfl rfl rfl rfl
        have e2 : rankV (gWy k) wA N P (ckey 1 c (nameKey 0 0 1)) = P 1 c 0 0 1 := rankV_seq (q := 0) hx1 (hat h) (Nat.zero_le _) (by decide) (by decide) (by decide)
        have h4 := (leaf c).1
        rw [e1] at h4 h2
        have h3 := way_le V hx1 (hat h) h4
        omega
      · obtain rfl : c = k := by omega
        exact zero 1 (.inl rfl) (by omega)
    | 3, hx', _, _ => have hx' : some _ = some x := hx'; injection hx' with hx'; subst hx'; exact absurd hh (by simp)
    | 4, hx', _, _ => have hx' : some _ = some x := hx'; injection hx' with hx'; subst hx'; exact absurd hh (by simp)
    | 5, hx', _, _ => have hx' : some _ = some x := hx'; injection hx' with hx'; subst hx'; exact absurd hh (by simp)
    | r + 6, hx', _, _ => simp [gWy] at hx'
  subst hr
  rw [hx1] at hx'
  injection hx' with hx'
  subst hx'
  have parts : ∀ n, n ≤ k → partsTo (rankV (gWy k) wA N P) (gWy k) wA ⟨0, conjW k⟩ (conjKeys (nameKey 0 0 1) 1 ⟨0, conjW k⟩) n = (List.range n).map (fun c => nameKey (nmW c : Nat) 0 1) := by
    intro n
    induction n with
    | zero => intro _; rfl
    | succ n ih =>
      intro hn
      unfold partsTo
      rw [ih (by omega), List.range_succ, List.map_append]
      congr 1
      rw [hat (by omega), conjKeys_at (by show n < (conjW k).length; rw [conjW_len]; omega)]
      show (if (oneC false (nmW n : Nat)).neg then [] else _) = _
      exact (one_along H hx1 (hat (show n < k by omega)) rfl (by simp) (pos 1 (.inl rfl) n (by omega))).2.2 65
  have hb2 : beneathB (rankV (gWy k) wA N P) (gWy k) wA (nameKey 0 0 1) = (1, (List.range k).map (fun c => nameKey (nmW c : Nat) 0 1)) := by
    rw [hb]
    have e : partsTo (rankV (gWy k) wA N P) (gWy k) wA ⟨0, conjW k⟩ (conjKeys (nameKey 0 0 1) 1 ⟨0, conjW k⟩) (k + 1) = (List.range k).map (fun c => nameKey (nmW c : Nat) 0 1) := by
      unfold partsTo
      rw [parts k (Nat.le_refl _), conjW_end, conjKeys_at (by show k < (conjW k).length; rw [conjW_len]; omega)]
      show _ ++ (if (oneC true 3).neg then [] else _) = _
      simp [oneC]
    show ((1 : Int), partsTo _ _ _ _ _ (conjW k).length) = _
    rw [conjW_len, e]
  rw [treeOf_eq H p rfl, brnOf, hb2]
  unfold wayT
  simp only [List.length_map, List.length_range]
  congr 1
  rw [List.flatMap_map]
  induction List.range k with
  | nil => rfl
  | cons c cs ih => rw [List.flatMap_cons, ih, List.map_cons, (leaf c).2]; rfl
theorem wayT_len (k : Nat) : (wayT k).length = k + 1 := by simp [wayT]
theorem way_first (M : MayG (gWy k)) (V : View (gWy k).rules (gWy k).names.length (fun i => btz wA i) wA.size N P) (hk : k ≤ 8) : 0 < rankV (gWy k) wA N P (nameKey (gWy k).start 0 wA.size) ∧ firstGo (rankV (gWy k) wA N P) (gWy k) wA 4098 [] [nameKey (gWy k).start 0 wA.size] = some (wayT k) := by
  obtain ⟨p, t⟩ := way_root M V (rkOK M V) (rkC M V)
  refine ⟨p, ?_⟩
  have hf : [nameKey (gWy k).start 0 wA.size].flatMap (treeOf (rankV (gWy k) wA N P) (gWy k) wA) = wayT k := by rw [List.flatMap_cons]; show treeOf _ _ _ (nameKey 0 0 1) ++ [] = _; rw [t, List.append_nil]
  have hl := wayT_len k
  have := firstGo_some (rkOK M V) 4098 [] [nameKey (gWy k).start 0 wA.size] (fun q hq => by rw [List.mem_singleton.1 hq]; exact ⟨rfl, p⟩) (by rw [hf]; omega) (by rw [hf]; simp; omega)
  rw [hf] at this
  exact this
end
end Go.Proofs.Ytbidpeggdhkahaa

set_option linter.unusedSimpArgs false
set_option linter.unusedVariables false
namespace Go.Proofs.Ytbidpeggdhkahaa
open Go.RowKit

/-- A conjunct of one name, its symbol in a block of its own. -/
theorem conj_new {w : World} {b base : Nat} {own : Option Nat} {neg : Bool} {nm : Int} (h : w.heap[b]? = some (symO [⟨nm, 0, 0⟩])) (hb : base ≤ b) (hn : own ≠ some b) :
    ∀ w', Upd (fun q => q < base ∨ own = some q) w w' → conjRd.K w' (oneC neg nm) (#[.bool neg, .slice (some ⟨b, 0, none⟩) 1 1] : Array Value).toList := by
  intro w' hu
  have h' : w'.heap[b]? = some (symO [⟨nm, 0, 0⟩]) := (hu.block b (blk_lt h) (by rintro (h | h); omega; exact hn h)).trans h
  exact conjRd_mk (x := oneC neg nm) (Nat.le_refl 1) (by decide) (symO_C h')
/-- The loop that makes the rule's conjuncts. -/
def WyR (w1 : World) (n k : Nat) (s7 : Value) (wr : World) : Prop :=
  ∃ (i : Nat) (vc : Value), s7 = .int .i64 i ∧ i ≤ k ∧ wr.heap[n]? = some (.cells #[.int .i64 (-1), .int .i64 97, .int .i64 97] 44 (0, 0)) ∧ wr.heap[n + 1]? = some (.cells #[.string ⟨#[83]⟩, .string ⟨#[88]⟩, .string ⟨#[89]⟩, .string ⟨#[90]⟩] 9 (0, 0)) ∧
    wr.heap[n + 2]? = some (.cells #[.int .i64 0, .slice (some ⟨n + 1, 0, none⟩) 4 4, .slice none 0 0] 25 (0, 0)) ∧ wr.heap[n + 3]? = some (.cells #[.int .i64 0, vc] 29 (0, 0)) ∧ Own conjRd 32 (n + 4) wr vc ((conjW k).take i) ∧ Below w1.heap.size w1 wr
def wyObjs (n : Nat) : List Obj := [
  .cells #[.int .i64 (-1), .int .i64 97, .int .i64 97] 44 (0, 0),
  .cells #[.string ⟨#[83]⟩, .string ⟨#[88]⟩, .string ⟨#[89]⟩, .string ⟨#[90]⟩] 9 (0, 0),
  .cells #[.int .i64 0, .slice (some ⟨n + 1, 0, none⟩) 4 4, .slice none 0 0] 25 (0, 0),
  .cells #[.int .i64 0, .slice none 0 0] 29 (0, 0)]
theorem gWy_edges (k : Fin 5) (h : 1 ≤ k.val) : ∀ e ∈ edgesOf (gWy k.val), e.neg = true → e.fr = 0 ∧ e.to = 3 := by
  revert k
  decide +kernel
theorem gWy_out (k : Fin 5) (h : 1 ≤ k.val) : ∀ e ∈ edgesOf (gWy k.val), e.fr ≠ 3 := by
  revert k
  decide +kernel

theorem allocs_setCell {n i : Nat} {v : Value} : ∀ (os : List Obj) (w : World), n < w.heap.size → (allocs w os).setCell ⟨n, i, none⟩ v = allocs (w.setCell ⟨n, i, none⟩ v) os
  | [], _, _ => rfl
  | o :: os, w, h => by
    show (allocs (w.alloc o) os).setCell ⟨n, i, none⟩ v = allocs ((w.setCell ⟨n, i, none⟩ v).alloc o) os
    rw [allocs_setCell os (w.alloc o) (by rw [World.size_alloc]; omega), World.setCell_alloc_past _ _ _ _ h]
theorem gWy_ref {k : Nat} (h1 : 1 ≤ k) (h4 : k ≤ 4) : ¬ RefG (gWy k) := by
  have hm : mayB (gWy k) = true := gWy_may ⟨k, by omega⟩ h1
  rintro (h | ⟨e, he, hn, hp⟩)
  · rw [hm] at h; cases h
  · obtain ⟨e1, e2⟩ := gWy_edges ⟨k, by omega⟩ h1 e he hn
    rw [e1, e2] at hp
    have hno : ∀ a b, Path (edgesOf (gWy k)) a b → a = 3 → b = 3 := by
      intro a b p
      cases p with
      | refl => exact id
      | step he' _ => intro h; exact absurd h (gWy_out ⟨k, by omega⟩ h1 _ he')
    exact absurd (hno 3 0 hp rfl) (by decide)
def wyMore (n : Nat) (A7 : Option Addr) (l c7 : Nat) : List Obj := [
  symO [sS],
  .cells #[.bool false, .slice (some ⟨n, 0, none⟩) 1 1] 32 (0, 0),
  symO [sA],
  .cells #[.bool false, .slice (some ⟨n + 2, 0, none⟩) 1 1] 32 (0, 0),
  symO [sA],
  .cells #[.bool false, .slice (some ⟨n + 4, 0, none⟩) 1 1] 32 (0, 0),
  .cells #[.bool false, .slice none 0 0] 32 (0, 0),
  .cells #[.int .i64 0, .slice (some ⟨n + 1, 0, none⟩) 1 1, .int .i64 0, .slice A7 l c7, .int .i64 0, .slice A7 l c7, .int .i64 1, .slice (some ⟨n + 3, 0, none⟩) 1 1, .int .i64 2, .slice (some ⟨n + 5, 0, none⟩) 1 1, .int .i64 3, .slice (some ⟨n + 6, 0, none⟩) 1 1] 29 (0, 0)]
theorem wy_lie {w8 : World} {k c7 : Nat} {A7 : Option Addr} (h : conjRd.C w8 A7 (conjW k)) (l1 : k + 1 ≤ c7) (l2 : c7 ≤ 9223372036854775807) : rulRd.C (allocs w8 (wyMore w8.heap.size A7 (k + 1) c7)) (some ⟨w8.heap.size + 7, 0, none⟩) (gWy k).rules := by
  have hb : Below w8.heap.size w8 (allocs w8 (wyMore w8.heap.size A7 (k + 1) c7)) := allocs_below _ (below_refl w8)
  have H : ∀ j o, (wyMore w8.heap.size A7 (k + 1) c7)[j]? = some o → (allocs w8 (wyMore w8.heap.size A7 (k + 1) c7)).heap[w8.heap.size + j]? = some o := fun j o h => allocs_heap _ _ _ _ h
  have h' := h.mono hb
  generalize allocs w8 (wyMore w8.heap.size A7 (k + 1) c7) = W at H h'
  have d1 : conjRd.C W (some ⟨w8.heap.size + 1, 0, none⟩) [oneC false 0] := C_blk [[.bool false, .slice (some ⟨w8.heap.size, 0, none⟩) 1 1]] (H 1 _ rfl) rfl ⟨⟨conjRd_mk (x := oneC false 0) (by decide) (by decide) (symO_C (H 0 _ rfl)), rfl⟩, trivial⟩
  have d3 : conjRd.C W (some ⟨w8.heap.size + 3, 0, none⟩) [⟨false, [sA]⟩] := C_blk [[.bool false, .slice (some ⟨w8.heap.size + 2, 0, none⟩) 1 1]] (H 3 _ rfl) rfl ⟨⟨conjRd_mk (x := ⟨false, [sA]⟩) (by decide) (by decide) (symO_C (H 2 _ rfl)), rfl⟩, trivial⟩
  have d5 : conjRd.C W (some ⟨w8.heap.size + 5, 0, none⟩) [⟨false, [sA]⟩] := C_blk [[.bool false, .slice (some ⟨w8.heap.size + 4, 0, none⟩) 1 1]] (H 5 _ rfl) rfl ⟨⟨conjRd_mk (x := ⟨false, [sA]⟩) (by decide) (by decide) (symO_C (H 4 _ rfl)), rfl⟩, trivial⟩
  have d6 : conjRd.C W (some ⟨w8.heap.size + 6, 0, none⟩) [⟨false, []⟩] := C_blk [[.bool false, .slice none 0 0]] (H 6 _ rfl) rfl ⟨⟨conjRd_mk (x := ⟨false, []⟩) (by decide) (by decide) (Rd.C.nil _ _ _), rfl⟩, trivial⟩
  have r1 : rulRd.K W ⟨0, conjW k⟩ [.int .i64 0, .slice A7 (k + 1) c7] := by
    have := rulRd_mk (x := ⟨0, conjW k⟩) (A := A7) (c := c7) (by rw [conjW_len]; exact l1) l2 h'
    rw [conjW_len] at this
    exact this
  exact C_blk [[.int .i64 0, .slice (some ⟨w8.heap.size + 1, 0, none⟩) 1 1], [.int .i64 0, .slice A7 (k + 1) c7], [.int .i64 0, .slice A7 (k + 1) c7], [.int .i64 1, .slice (some ⟨w8.heap.size + 3, 0, none⟩) 1 1], [.int .i64 2, .slice (some ⟨w8.heap.size + 5, 0, none⟩) 1 1], [.int .i64 3, .slice (some ⟨w8.heap.size + 6, 0, none⟩) 1 1]] (H 7 _ rfl) rfl
    ⟨⟨rulRd_mk (x := ⟨0, [oneC false 0]⟩) (by decide) (by decide) d1, rfl⟩, ⟨r1, rfl⟩, ⟨r1, rfl⟩, ⟨rulRd_mk (x := ⟨1, [⟨false, [sA]⟩]⟩) (by decide) (by decide) d3, rfl⟩, ⟨rulRd_mk (x := ⟨2, [⟨false, [sA]⟩]⟩) (by decide) (by decide) d5, rfl⟩, ⟨rulRd_mk (x := ⟨3, [⟨false, []⟩]⟩) (by decide) (by decide) d6, rfl⟩, trivial⟩
theorem wy_first {w w' : World} {k : Nat} (h1k : 1 ≤ k) (h4k : k ≤ 4) {e : Ending} (h : FirstPost w (gWy k) wA e w') : Below w.heap.size w w' ∧ ∃ A c, e = .returned (.tuple #[.slice A (k + 1) c, .int .i64 0]) ∧ k + 1 ≤ c ∧ c ≤ 9223372036854775807 ∧ brnRd.C w' A (wayT k) := by
  obtain ⟨hb, ⟨h1 | h1, -⟩ | ⟨-, -, N, P, V, h⟩⟩ := h
  · exact absurd h1 (gWy_ref h1k h4k)
  · exact absurd h1 (by decide)
  · have M : MayG (gWy k) := mayG (gWy_may ⟨k, by omega⟩ h1k)
    obtain ⟨t1, t2⟩ := way_first M V (by omega)
    refine ⟨hb, ?_⟩
    rcases h with ⟨h, -⟩ | ⟨-, h, -⟩ | ⟨-, bs, A, c, h, he, l1, l2, hC⟩
    · have h : rankV (gWy k) wA N P (nameKey (gWy k).start 0 wA.size) = 0 := h
      omega
    · have h : firstGo (rankV (gWy k) wA N P) (gWy k) wA 4098 [] [nameKey (gWy k).start 0 wA.size] = none := h
      rw [t2] at h; cases h
    · have h : firstGo (rankV (gWy k) wA N P) (gWy k) wA 4098 [] [nameKey (gWy k).start 0 wA.size] = some bs := h
      rw [t2] at h
      injection h with h
      subst h
      rw [wayT_len] at he l1
      exact ⟨A, c, he, l1, l2, hC⟩

set_option maxRecDepth 100000 in
set_option maxHeartbeats 4000000 in
theorem ways_any (w : World) (x : Int) : Calls Try.prog 5 #[.int .i64 x] w fun e w' => e = .returned (.bool true) ∧ Below w.heap.size w w' := by
  obtain ⟨k, hk, hk1, hk4⟩ : ∃ k : Nat, wrap64 (1 + bits BinOp.and .i64 x 3) = (k : Int) ∧ 1 ≤ k ∧ k ≤ 4 := by
    obtain ⟨h0, h1⟩ := band_small x (m := 3) (by decide)
    simp only [Int.cast_ofNat_Int] at h0 h1
    exact ⟨(1 + bits BinOp.and .i64 x 3).toNat, by unfold wrap64; omega, by omega, by omega⟩
  have HK := Lib.hid hk
  clear hk
  go_enter Try.func5, Try.ntmps5
  go_upto_region 7 with (first
      | (go_at_call 7; (with_reducible refine (awake_any _).mono ?_); rintro e w1 ⟨rfl, hb1⟩; have HB1 := Lib.hid hb1; clear hb1)
      | fail)
  change Code.wp _ _ _ _ (allocs w1 (wyObjs w1.heap.size))
  rw [HK.out]
  have hb0 : Below w1.heap.size w1 (allocs w1 (wyObjs w1.heap.size)) := allocs_below _ (below_refl w1)
  have hO : ∀ j o, (wyObjs w1.heap.size)[j]? = some o → (allocs w1 (wyObjs w1.heap.size)).heap[w1.heap.size + j]? = some o := fun j o h => allocs_heap _ _ _ _ h
  have hsz : (allocs w1 (wyObjs w1.heap.size)).heap.size = w1.heap.size + 4 := by simp [allocs, wyObjs]
  obtain ⟨n, hn⟩ : ∃ n, n = w1.heap.size := ⟨_, rfl⟩
  rw [show w1.heap.size + 1 + 1 + 1 = n + 3 by omega, show w1.heap.size + 1 + 1 = n + 2 by omega]
  rw [← hn] at hO hb0 hsz ⊢
  generalize allocs w1 (wyObjs n) = w0 at hO hb0 hsz ⊢
  have HB0 := Lib.hid (show Below w1.heap.size w1 w0 from hn ▸ hb0)
  have o0 := Lib.hid (hO 0 _ rfl)
  have o1 := Lib.hid (hO 1 _ rfl)
  have o2 := Lib.hid (hO 2 _ rfl)
  have o3 := Lib.hid (hO 3 _ rfl)
  have HN := Lib.hid hn
  clear hO hb0 hn HK
  go_wp2_with fail
  go_loopw [7] (fun s7 wr => WyR w1 n k s7 wr) (fun s7 _ => k - (intOf s7).toNat)
  case atStart => exact ⟨0, _, rfl, Nat.zero_le _, o0.out, o1.out, o2.out, o3.out, Own.nil _ _ _ _, HB0.out⟩
  case round =>
    obtain ⟨i, vc, rfl, hi, q0, q1, q2, q3, hO, hb⟩ := hrel
    have Q0 := Lib.hid q0
    have Q1 := Lib.hid q1
    have Q2 := Lib.hid q2
    have Q3 := Lib.hid q3
    have HO := Lib.hid hO
    have HB := Lib.hid hb
    obtain ⟨Av, kv, ev, lv, lv', -⟩ := id hO.shape
    have hcl : ((conjW k).take i).length = i := by rw [List.length_take, conjW_len]; omega
    rw [hcl] at ev lv
    subst ev
    have z1 : wr.cell? ⟨n + 3, 1, none⟩ = some (.slice Av i kv) := blk_cell q3 1
    clear q0 q1 q2 q3 hO hb
    by_cases hlt : i < k
    · have b1 : (i : Int) < k := by omega
      obtain ⟨u, hu0⟩ : ∃ u : Int, u = ((i % 2 : Nat) : Int) := ⟨_, rfl⟩
      have ea : bits BinOp.and .i64 (i : Int) 1 = u := by
        rw [hu0]
        match i, (show i < 4 by omega) with
        | 0, _ => rfl
        | 1, _ => rfl
        | 2, _ => rfl
        | 3, _ => rfl
      have u1 : 0 ≤ u := by omega
      have u2 : u ≤ 1 := by omega
      have HU := Lib.hid hu0
      have HCL := Lib.hid hcl
      have HI4 := Lib.hid (show n + 4 ≤ wr.heap.size from blk_lt Q3.out)
      clear hu0 hcl
      go_wp2_with (first
        | (at_builtin; refine wpList_append_one (d := conjRd) rfl (base := n + 4) _ _ 27 32 _ 32 (by rfl) Try.underlying27 infoConj (by rfl) (by show 0 < 2; decide) (v := .slice Av i kv) (xs := (conjW k).take i) (by rfl) (HO.out.below (below_alloc' (below_alloc' (below_refl _) _) _)) (oneC false (1 + u)) #[.bool false, .slice (some ⟨wr.heap.size, 0, none⟩) 1 1] (conj_new (b := wr.heap.size) (nm := 1 + u) (heap_alloc2_old wr (symO [⟨1 + u, 0, 0⟩]) (.cells #[.bool false, .slice (some ⟨wr.heap.size, 0, none⟩) 1 1] 32)) HI4.out (fun e => Nat.lt_irrefl _ (HO.out.base e).2)) (b := wr.heap.size + 1) (c := 1) (by rfl) (by exact heap_alloc2_new wr (symO [⟨1 + u, 0, 0⟩]) (.cells #[.bool false, .slice (some ⟨wr.heap.size, 0, none⟩) 1 1] 32)) (by rw [HCL.out]; omega) (by decide) (by have := HI4.out; simp only [World.size_alloc]; omega) ?_; intro v7 w7 o7 g7 t7; have hba : Below wr.heap.size wr ((wr.alloc (symO [⟨1 + u, 0, 0⟩])).alloc (.cells #[.bool false, .slice (some ⟨wr.heap.size, 0, none⟩) 1 1] 32)) := below_alloc' (below_alloc' (below_refl _) _) _; have R0 := Lib.hid (blk_grown (blk_below Q0.out hba) g7 (by intro e; have := (HO.out.base e.symm).1; omega)); have R1 := Lib.hid (blk_grown (blk_below Q1.out hba) g7 (by intro e; have := (HO.out.base e.symm).1; omega)); have R2 := Lib.hid (blk_grown (blk_below Q2.out hba) g7 (by intro e; have := (HO.out.base e.symm).1; omega)); have R3 := Lib.hid (blk_grown (blk_below Q3.out hba) g7 (by intro e; have := (HO.out.base e.symm).1; omega)); have HB7 := Lib.hid ((below_then HB.out hba).grown g7 (below_then HB.out hba).size (fun b hb => by have := (HO.out.base hb).1; have := HN.out; omega)); have O7 := Lib.hid o7; obtain ⟨A7, c7, ev, -, -, -⟩ := id o7.shape; rw [List.length_append, HCL.out, List.length_singleton] at ev; subst ev; have z1 := blk_cell R3.out 1; have fz := blk_frozen R3.out 1; clear o7 g7 t7 hba)
        | fail)
      have hu : Upd (fun b => b = n + 3) w7 (w7.setCell ⟨n + 3, 1, none⟩ (.slice A7 (i + 1) c7)) := (Upd.refl (fun b => b = n + 3) w7).setCell (p := ⟨n + 3, 1, none⟩) rfl _
      have htk : (conjW k).take (i + 1) = (conjW k).take i ++ [oneC false (1 + u)] := by rw [List.take_add_one, conjW_lt hlt, HU.out]; rfl
      go_roundw
      case rel =>
        refine ⟨i + 1, _, by go_num, by omega, (hu.block _ (blk_lt R0.out) (by omega)).trans R0.out, (hu.block _ (blk_lt R1.out) (by omega)).trans R1.out, (hu.block _ (blk_lt R2.out) (by omega)).trans R2.out, blk_set R3.out 1 _, ?_, HB7.out.trans (hu.below HB7.out.size (fun b hb => by have hb : b = n + 3 := hb; have := HN.out; omega))⟩
        rw [htk]
        exact O7.out.upd hu (fun b hb => by have hb : b = n + 3 := hb; omega)
      case measure => simp [intOf]; omega
    · have b1 : ¬ ((i : Int) < k) := by omega
      obtain rfl : i = k := by omega
      have HCL := Lib.hid hcl
      have HI4 := Lib.hid (show n + 4 ≤ wr.heap.size from blk_lt Q3.out)
      clear hcl hlt hi
      go_upto_region 12 with (first
        | (at_builtin; refine wpList_append_one (d := conjRd) rfl (base := n + 4) _ _ 27 32 _ 32 (by rfl) Try.underlying27 infoConj (by rfl) (by show 0 < 2; decide) (v := .slice Av i kv) (xs := (conjW i).take i) (by rfl) (HO.out.below (below_alloc' (below_alloc' (below_refl _) _) _)) (oneC true 3) #[.bool true, .slice (some ⟨wr.heap.size, 0, none⟩) 1 1] (conj_new (b := wr.heap.size) (nm := 3) (heap_alloc2_old wr (symO [⟨3, 0, 0⟩]) (.cells #[.bool true, .slice (some ⟨wr.heap.size, 0, none⟩) 1 1] 32)) HI4.out (fun e => Nat.lt_irrefl _ (HO.out.base e).2)) (b := wr.heap.size + 1) (c := 1) (by rfl) (by exact heap_alloc2_new wr (symO [⟨3, 0, 0⟩]) (.cells #[.bool true, .slice (some ⟨wr.heap.size, 0, none⟩) 1 1] 32)) (by rw [HCL.out]; omega) (by decide) (by have := HI4.out; simp only [World.size_alloc]; omega) ?_; intro v7 w7 o7 g7 t7; have hba : Below wr.heap.size wr ((wr.alloc (symO [⟨3, 0, 0⟩])).alloc (.cells #[.bool true, .slice (some ⟨wr.heap.size, 0, none⟩) 1 1] 32)) := below_alloc' (below_alloc' (below_refl _) _) _; have R0 := Lib.hid (blk_grown (blk_below Q0.out hba) g7 (by intro e; have := (HO.out.base e.symm).1; omega)); have R1 := Lib.hid (blk_grown (blk_below Q1.out hba) g7 (by intro e; have := (HO.out.base e.symm).1; omega)); have R2 := Lib.hid (blk_grown (blk_below Q2.out hba) g7 (by intro e; have := (HO.out.base e.symm).1; omega)); have R3 := Lib.hid (blk_grown (blk_below Q3.out hba) g7 (by intro e; have := (HO.out.base e.symm).1; omega)); have HB7 := Lib.hid ((below_then HB.out hba).grown g7 (below_then HB.out hba).size (fun b hb => by have := (HO.out.base hb).1; have := HN.out; omega)); have O7 := Lib.hid o7; obtain ⟨A7, c7, ev, -, -, -⟩ := id o7.shape; rw [List.length_append, HCL.out, List.length_singleton] at ev; subst ev; have z1 := blk_cell R3.out 1; have fz := blk_frozen R3.out 1; clear o7 g7 t7 hba)
        | fail)
      change Code.wp _ _ _ _ (w7.setCell ⟨n + 3, 1, none⟩ (.slice A7 (i + 1) c7))
      have hu : Upd (fun b => b = n + 3) w7 (w7.setCell ⟨n + 3, 1, none⟩ (.slice A7 (i + 1) c7)) := (Upd.refl (fun b => b = n + 3) w7).setCell (p := ⟨n + 3, 1, none⟩) rfl _
      have S0 := Lib.hid ((hu.block _ (blk_lt R0.out) (by omega)).trans R0.out)
      have S1 := Lib.hid ((hu.block _ (blk_lt R1.out) (by omega)).trans R1.out)
      have S2 := Lib.hid ((hu.block _ (blk_lt R2.out) (by omega)).trans R2.out)
      have S3 := Lib.hid (blk_set R3.out 1 (.slice A7 (i + 1) c7))
      have hwhole : (conjW i).take i ++ [oneC true 3] = conjW i := by
        unfold conjW
        rw [List.take_append_of_le_length (by simp), List.take_of_length_le (by simp)]
      have O8 := Lib.hid (show Own conjRd 32 (n + 4) (w7.setCell ⟨n + 3, 1, none⟩ (.slice A7 (i + 1) c7)) (.slice A7 (i + 1) c7) (conjW i) from by
        have := O7.out.upd hu (fun b hb => by have hb : b = n + 3 := hb; omega)
        rw [hwhole] at this
        exact this)
      have HB8 := Lib.hid (HB7.out.trans (hu.below HB7.out.size (fun b hb => by have hb : b = n + 3 := hb; have := HN.out; omega)))
      generalize w7.setCell ⟨n + 3, 1, none⟩ (.slice A7 (i + 1) c7) = w8 at hu S0 S1 S2 S3 O8 HB8 ⊢
      clear hu hwhole R0 R1 R2 R3 Q0 Q1 Q2 Q3 O7 HO HB7 HB z1 fz
      have a0 : w8.cell? ⟨n, 0, none⟩ = some (.int .i64 (-1)) := blk_cell S0.out 0
      have a1 : w8.cell? ⟨n, 1, none⟩ = some (.int .i64 97) := blk_cell S0.out 1
      have a2 : w8.cell? ⟨n, 2, none⟩ = some (.int .i64 97) := blk_cell S0.out 2
      have r0 : w8.cell? ⟨n + 3, 0, none⟩ = some (.int .i64 0) := blk_cell S3.out 0
      have r1 : w8.cell? ⟨n + 3, 1, none⟩ = some (.slice A7 (i + 1) c7) := blk_cell S3.out 1
      have f2 : w8.frozen? ⟨n + 2, 2, none⟩ = false := blk_frozen S2.out 2
      have g2 : w8.cell? ⟨n + 2, 2, none⟩ = some (.slice none 0 0) := blk_cell S2.out 2
      have r0' : ∀ o1 o2, ((w8.alloc o1).alloc o2).cell? ⟨n + 3, 0, none⟩ = some (.int .i64 0) := fun o1 o2 => below_cell (w := w8) (below_alloc' (below_alloc' (below_refl w8) o1) o2) r0
      have r1' : ∀ o1 o2, ((w8.alloc o1).alloc o2).cell? ⟨n + 3, 1, none⟩ = some (.slice A7 (i + 1) c7) := fun o1 o2 => below_cell (w := w8) (below_alloc' (below_alloc' (below_refl w8) o1) o2) r1
      have a02 : ∀ o1 o2, ((w8.alloc o1).alloc o2).cell? ⟨n, 0, none⟩ = some (.int .i64 (-1)) := fun o1 o2 => below_cell (w := w8) (below_alloc' (below_alloc' (below_refl w8) o1) o2) a0
      have a12 : ∀ o1 o2, ((w8.alloc o1).alloc o2).cell? ⟨n, 1, none⟩ = some (.int .i64 97) := fun o1 o2 => below_cell (w := w8) (below_alloc' (below_alloc' (below_refl w8) o1) o2) a1
      have a22 : ∀ o1 o2, ((w8.alloc o1).alloc o2).cell? ⟨n, 2, none⟩ = some (.int .i64 97) := fun o1 o2 => below_cell (w := w8) (below_alloc' (below_alloc' (below_refl w8) o1) o2) a2
      have a04 : ∀ o1 o2 o3 o4, ((((w8.alloc o1).alloc o2).alloc o3).alloc o4).cell? ⟨n, 0, none⟩ = some (.int .i64 (-1)) := fun o1 o2 o3 o4 => below_cell (w := w8) (below_alloc' (below_alloc' (below_alloc' (below_alloc' (below_refl w8) o1) o2) o3) o4) a0
      have a14 : ∀ o1 o2 o3 o4, ((((w8.alloc o1).alloc o2).alloc o3).alloc o4).cell? ⟨n, 1, none⟩ = some (.int .i64 97) := fun o1 o2 o3 o4 => below_cell (w := w8) (below_alloc' (below_alloc' (below_alloc' (below_alloc' (below_refl w8) o1) o2) o3) o4) a1
      have a24 : ∀ o1 o2 o3 o4, ((((w8.alloc o1).alloc o2).alloc o3).alloc o4).cell? ⟨n, 2, none⟩ = some (.int .i64 97) := fun o1 o2 o3 o4 => below_cell (w := w8) (below_alloc' (below_alloc' (below_alloc' (below_alloc' (below_refl w8) o1) o2) o3) o4) a2
      have g2' : ∀ o1 o2 o3 o4 o5 o6 o7 o8, ((((((((w8.alloc o1).alloc o2).alloc o3).alloc o4).alloc o5).alloc o6).alloc o7).alloc o8).cell? ⟨n + 2, 2, none⟩ = some (.slice none 0 0) := fun o1 o2 o3 o4 o5 o6 o7 o8 => below_cell (w := w8) (below_alloc' (below_alloc' (below_alloc' (below_alloc' (below_alloc' (below_alloc' (below_alloc' (below_alloc' (below_refl w8) o1) o2) o3) o4) o5) o6) o7) o8) g2
      have f2' : ∀ o1 o2 o3 o4 o5 o6 o7 o8, ((((((((w8.alloc o1).alloc o2).alloc o3).alloc o4).alloc o5).alloc o6).alloc o7).alloc o8).frozen? ⟨n + 2, 2, none⟩ = false := fun o1 o2 o3 o4 o5 o6 o7 o8 => blk_frozen (blk_below S2.out (below_alloc' (below_alloc' (below_alloc' (below_alloc' (below_alloc' (below_alloc' (below_alloc' (below_alloc' (below_refl w8) o1) o2) o3) o4) o5) o6) o7) o8)) 2
      clear r0 r1 a0 a1 a2 g2 f2
      go_upto_region 13 with fail
      change Code.wp _ _ _ _ ((allocs w8 (wyMore w8.heap.size A7 (i + 1) c7)).setCell ⟨n + 2, 2, none⟩ (.slice (some ⟨w8.heap.size + 7, 0, none⟩) 6 6))
      rw [allocs_setCell _ _ (blk_lt S2.out)]
      have hu2 : Upd (fun b => b = n + 2) w8 (w8.setCell ⟨n + 2, 2, none⟩ (.slice (some ⟨w8.heap.size + 7, 0, none⟩) 6 6)) := (Upd.refl (fun b => b = n + 2) w8).setCell (p := ⟨n + 2, 2, none⟩) rfl _
      have hsz9 : (w8.setCell ⟨n + 2, 2, none⟩ (.slice (some ⟨w8.heap.size + 7, 0, none⟩) 6 6)).heap.size = w8.heap.size := by simp [World.setCell]
      have T1 := (hu2.block _ (blk_lt S1.out) (by omega)).trans S1.out
      have T2 := blk_set S2.out 2 (.slice (some ⟨w8.heap.size + 7, 0, none⟩) 6 6)
      have O9 := O8.out.upd hu2 (fun b hb => by have hb : b = n + 2 := hb; omega)
      have HB9 := HB8.out.trans (hu2.below HB8.out.size (fun b hb => by have hb : b = n + 2 := hb; have := HN.out; omega))
      generalize w8.setCell ⟨n + 2, 2, none⟩ (.slice (some ⟨w8.heap.size + 7, 0, none⟩) 6 6) = w9 at hu2 hsz9 T1 T2 O9 HB9 ⊢
      rw [← hsz9] at T2 ⊢
      obtain ⟨A8, c8, ev8, l8, l8', hC8⟩ := O9.shape
      rw [conjW_len] at ev8 l8
      injection ev8 with v1 v2 v3
      subst v1 v3
      have hL := wy_lie hC8 l8 l8'
      have hbA : Below w9.heap.size w9 (allocs w9 (wyMore w9.heap.size A7 (i + 1) c7)) := allocs_below _ (below_refl w9)
      have U1 := blk_below T1 hbA
      have U2 := blk_below T2 hbA
      have HBA := Lib.hid (below_then HB9 hbA)
      generalize hnr : w9.heap.size + 7 = nr at hL U2 ⊢
      generalize allocs w9 (wyMore w9.heap.size A7 (i + 1) c7) = wA9 at hL U1 U2 HBA ⊢
      have hNm : Rd.str.C wA9 (some ⟨n + 1, 0, none⟩) (gWy i).names := C_blk [[.string ⟨#[83]⟩], [.string ⟨#[88]⟩], [.string ⟨#[89]⟩], [.string ⟨#[90]⟩]] U1 rfl ⟨⟨rfl, rfl⟩, ⟨rfl, rfl⟩, ⟨rfl, rfl⟩, ⟨rfl, rfl⟩, trivial⟩
      have C1 := Lib.hid (show Calls Try.prog 8 #[.agg #[.int .i64 0, .slice (some ⟨n + 1, 0, none⟩) 4 4, .slice (some ⟨nr, 0, none⟩) 6 6], .string ⟨#[97]⟩] wA9 (FirstPost wA9 (gWy i) wA) from first_any (gWy i) wA (Nat.le_refl 4) (by decide) hNm (Nat.le_refl 6) (by decide) hL)
      have z0 : wA9.cell? ⟨n + 2, 0, none⟩ = some (.int .i64 0) := blk_cell U2 0
      have z1 : wA9.cell? ⟨n + 2, 1, none⟩ = some (.slice (some ⟨n + 1, 0, none⟩) 4 4) := blk_cell U2 1
      have z2 : wA9.cell? ⟨n + 2, 2, none⟩ = some (.slice (some ⟨nr, 0, none⟩) 6 6) := blk_cell U2 2
      clear hu2 hsz9 T1 T2 O9 HB9 hC8 hL hbA U1 U2 hNm hnr r0' r1' a02 a12 a22 a04 a14 a24 g2' f2'
      have KG := br_guard
      have KE : ∀ w, (binOp .neq 41 (.agg #[.int .i64 0, .int .i64 1, .int .i64 0, .int .i64 1, .int .i64 (i : Int)]) (.agg #[.int .i64 0, .int .i64 1, .int .i64 0, .int .i64 1, .int .i64 (i : Int)])).run Try.prog w = .ok (.bool false) w := run_br_neq ⟨0, 1, 0, 1, i⟩
      go_wp2_with (first
        | (go_at_call 8; (with_reducible refine C1.out.mono ?_); intro e w2 h2; obtain ⟨hb2, A1, c1, rfl, m1, m2, hC1⟩ := wy_first hk1 hk4 h2; obtain ⟨ad, eA, K⟩ := br_at hC1 (i := 0) (x := ⟨0, 1, 0, 1, i⟩) rfl; subst eA; have P0 := K.c0; have P1 := K.c1; have P2 := K.c2; have P3 := K.c3; have P4 := K.c4; rw [Nat.zero_mul, addr_add0] at P0 P1 P2 P3 P4; simp only at P0 P1 P2 P3 P4; have HC1 := Lib.hid hC1; have HB2 := Lib.hid (below_then HBA.out hb2); clear h2 hb2 hC1 K z0 z1 z2)
        | (go_at_call 9; refine (num_any _ _).mono ?_; rintro e w5 ⟨rfl, rfl⟩)
        | fail)
      clear P0 P1 P2 P3 P4 KE
      go_loopw [10] (fun cnt wr => ToNb w5 i cnt wr) (fun cnt _ => i - (intOf cnt).toNat)
      case atStart => exact ⟨0, rfl, Nat.zero_le _, below_refl _⟩
      case round =>
        obtain ⟨m, rfl, hm, hb⟩ := hrel
        have HB := Lib.hid hb
        clear hb
        by_cases hlt : m < i
        · have hs : (wayT i)[1 + m]? = some ⟨nmW m, 2 + nmW m, 0, 1, 0⟩ := by
            unfold wayT
            rw [Nat.add_comm, List.getElem?_cons_succ]
            simp [hlt]
          obtain ⟨ad2, eA, K⟩ := br_at (HC1.out.mono HB.out) hs
          injection eA with eA
          subst eA
          obtain ⟨u, hu0⟩ : ∃ u : Int, u = ((m % 2 : Nat) : Int) := ⟨_, rfl⟩
          have ea : bits BinOp.and .i64 (m : Int) 1 = u := by
            rw [hu0]
            match m, (show m < 4 by omega) with
            | 0, _ => rfl
            | 1, _ => rfl
            | 2, _ => rfl
            | 3, _ => rfl
          have u1 : 0 ≤ u := by omega
          have u2 : u ≤ 1 := by omega
          have hn1 : ((nmW m : Nat) : Int) = 1 + u := by rw [hu0]; unfold nmW; omega
          have hki : (m : Int) < i := by omega
          have P0 := K.c0
          have P1 := K.c1
          have P2 := K.c2
          have P3 := K.c3
          have P4 := K.c4
          simp only at P0 P1 P2 P3 P4
          rw [hn1] at P0 P1
          rw [show (2 : Int) + (1 + u) = 3 + u by omega] at P1
          have e1 : IntKind.i64.wrap (1 + (m : Int)) = ((1 + m : Nat) : Int) := by rw [IntWalk.i64_in _ (by omega)]; omega
          have KE : ∀ w, (binOp .neq 41 (.agg #[.int .i64 (1 + u), .int .i64 (3 + u), .int .i64 0, .int .i64 1, .int .i64 0]) (.agg #[.int .i64 (1 + u), .int .i64 (3 + u), .int .i64 0, .int .i64 1, .int .i64 0])).run Try.prog w = .ok (.bool false) w := run_br_neq ⟨1 + u, 3 + u, 0, 1, 0⟩
          clear hs K hu0 hn1
          go_wp2_with fail
          go_roundw
          case rel => exact ⟨m + 1, by go_num, by omega, HB.out⟩
          case measure => simp [intOf]; omega
        · have b1 : ¬ ((m : Int) < i) := by omega
          go_wp2_with fail
          go_ret
          exact ⟨rfl, below_then HB1.out (below_then HB2.out HB.out)⟩
end Go.Proofs.Ytbidpeggdhkahaa
