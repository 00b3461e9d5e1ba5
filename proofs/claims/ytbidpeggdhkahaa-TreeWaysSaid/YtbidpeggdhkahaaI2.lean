/-
  I2: the ranks of a grammar and a text are such as the picks lean on. No program in sight.
-/
import Derived.Test.YtbidpeggdhkahaaI1
import Derived.Test.YtbidpeggdhkahaaP9
set_option linter.unusedSimpArgs false
set_option linter.unusedVariables false
namespace Go.Proofs.Ytbidpeggdhkahaa
open Go.RowKit

def spanV (W : ByteArray) (i j : Int) : Bool := decide (0 ≤ i) && decide (i ≤ j) && decide (j ≤ W.size)
def rankV (G : Gram) (W : ByteArray) (N : Rk) (P : Nat → Nat → Nat → Int → Int → Int) (k : Ky) : Int :=
  if k.kind = 0 then (if (decide (0 ≤ k.name) && decide (k.name < G.names.length)) && spanV W k.i k.j then N k.name.toNat k.i k.j else 0)
  else (if placeB G.rules k.plc.rule k.plc.conj k.plc.pos && spanV W k.i k.j then P k.plc.rule.toNat k.plc.conj.toNat k.plc.pos.toNat k.i k.j else 0)
section
variable {G : Gram} {W : ByteArray} {N : Rk} {P : Nat → Nat → Nat → Int → Int → Int}
theorem spanV_iff {i j : Int} : spanV W i j = true ↔ 0 ≤ i ∧ i ≤ j ∧ j ≤ W.size := by
  unfold spanV
  simp only [Bool.and_eq_true, decide_eq_true_eq, and_assoc]
theorem rankV_name {nm : Nat} {i j : Int} (h : nm < G.names.length) (i0 : 0 ≤ i) (ij : i ≤ j) (j1 : j ≤ W.size) (k : Ky) (hk : k.kind = 0) (hn : k.name = nm) (hi : k.i = i) (hj : k.j = j) : rankV G W N P k = N nm i j := by
  unfold rankV
  rw [if_pos hk, if_pos, hn, hi, hj, Int.toNat_natCast]
  simp only [Bool.and_eq_true, decide_eq_true_eq, spanV_iff, hn, hi, hj]
  omega
theorem rankV_seq {r c q : Nat} {x : Rul} {y : Conj} {i j : Int} (hx : G.rules[r]? = some x) (hy : x.conj[c]? = some y) (hq : q ≤ y.seq.length) (i0 : 0 ≤ i) (ij : i ≤ j) (j1 : j ≤ W.size) : rankV G W N P (seqKey ⟨r, c, q⟩ i j) = P r c q i j := by
  have h1 : placeB G.rules r c q = true := by
    unfold placeB
    simp only [Int.toNat_natCast, hx, hy, Bool.and_eq_true, decide_eq_true_eq]
    omega
  unfold rankV seqKey
  simp only [show ¬ ((1 : Int) = 0) by decide, if_false, h1, Bool.true_and, Int.toNat_natCast]
  rw [if_pos (spanV_iff.2 ⟨i0, ij, j1⟩)]
theorem rankV_ckey {r c : Nat} {x : Rul} {y : Conj} {k : Ky} (hx : G.rules[r]? = some x) (hy : x.conj[c]? = some y) (i0 : 0 ≤ k.i) (ij : k.i ≤ k.j) (j1 : k.j ≤ W.size) : rankV G W N P (ckey r c k) = P r c 0 k.i k.j :=
  rankV_seq (q := 0) hx hy (Nat.zero_le _) i0 ij j1
theorem holdsK_iff {r : Nat} {x : Rul} {k : Ky} (hx : G.rules[r]? = some x) (i0 : 0 ≤ k.i) (ij : k.i ≤ k.j) (j1 : k.j ≤ W.size) : holdsK (rankV G W N P) k r x = true ↔ HoldsTo (fun c => P r c 0 k.i k.j) x.conj x.conj.length := by
  unfold holdsK HoldsTo
  rw [List.all_eq_true]
  constructor
  · intro h c y hc hy
    have := h c (List.mem_range.2 hc)
    unfold cOK at this
    rw [hy] at this
    simp only [rankV_ckey hx hy i0 ij j1] at this
    cases hd : decide (0 < P r c 0 k.i k.j) <;> cases hn : y.neg <;> simp_all
  · intro h c hc
    have hc := List.mem_range.1 hc
    obtain ⟨y, hy⟩ : ∃ y, x.conj[c]? = some y := ⟨_, List.getElem?_eq_getElem hc⟩
    have := h c y hc hy
    unfold cOK
    rw [hy]
    simp only [rankV_ckey hx hy i0 ij j1]
    cases hd : decide (0 < P r c 0 k.i k.j) <;> cases hn : y.neg <;> simp_all
theorem symOf_at {r c q : Nat} {x : Rul} {y : Conj} (hx : G.rules[r]? = some x) (hy : x.conj[c]? = some y) : symOf G ⟨r, c, q⟩ = y.seq[q]? := by
  unfold symOf cjAt
  simp only [Int.toNat_natCast]
  rw [if_neg (by omega), hx]
  simp only [hy]

theorem rkOK (M : MayG G) (V : View G.rules G.names.length (fun i => btz W i) W.size N P) : RkOK (rankV G W N P) G W := by
  have hsp : ∀ k, 0 < rankV G W N P k → spanV W k.i k.j = true := fun k h => by
    unfold rankV at h
    cases hs : spanV W k.i k.j with
    | true => rfl
    | false => simp [hs] at h
  have hkey : ∀ k, 0 < rankV G W N P k → k.kind ≠ 0 → ∃ (rn cn qn : Nat) (x : Rul) (y : Conj), k.plc.rule = rn ∧ k.plc.conj = cn ∧ k.plc.pos = qn ∧ G.rules[rn]? = some x ∧ x.conj[cn]? = some y ∧ qn ≤ y.seq.length := fun k h hk => by
    unfold rankV at h
    rw [if_neg hk] at h
    cases hp : placeB G.rules k.plc.rule k.plc.conj k.plc.pos with
    | false => simp [hp] at h
    | true => exact place_of hp
  have hsq : ∀ k, k.kind ≠ 0 → rankV G W N P k = rankV G W N P (seqKey k.plc k.i k.j) := fun k hk => by
    unfold rankV seqKey
    simp only [if_neg hk, show ¬ ((1 : Int) = 0) by decide, if_false]
  refine ⟨fun k => ?_, fun k h => spanV_iff.1 (hsp k h), fun k h hk => ?_, fun k h hk => ?_, fun k h hk => ?_, fun k h hk hs => ?_, fun k s h hk hs hn => ?_, fun k s h hk hs hn => ?_⟩
  · unfold rankV
    split
    · split
      · exact V.n0 _ _ _
      · exact Int.le_refl _
    · split
      · exact V.p0 _ _ _ _ _
      · exact Int.le_refl _
  · unfold rankV at h
    rw [if_pos hk] at h
    cases hb : (decide (0 ≤ k.name) && decide (k.name < G.names.length)) with
    | false => simp [hb] at h
    | true => simpa using hb
  · obtain ⟨rn, cn, qn, x, y, e1, e2, e3, hx, hy, hq⟩ := hkey k h hk
    rw [e1, e2, e3]
    unfold placeB
    simp only [Int.toNat_natCast, hx, hy, Bool.and_eq_true, decide_eq_true_eq]
    omega
  · obtain ⟨i0, ij, j1⟩ := spanV_iff.1 (hsp k h)
    have hnm : 0 ≤ k.name ∧ k.name < G.names.length := by
      unfold rankV at h
      rw [if_pos hk] at h
      cases hb : (decide (0 ≤ k.name) && decide (k.name < G.names.length)) with
      | false => simp [hb] at h
      | true => simpa using hb
    have hR : rankV G W N P k = N k.name.toNat k.i k.j := rankV_name (by omega) i0 ij j1 k hk (by omega) rfl rfl
    rw [hR] at h ⊢
    obtain ⟨r, x, hx, hh, hH, hT⟩ := V.nIs k.name.toNat k.i k.j (by omega) i0 ij j1 h
    have := (M.head r x hx).1
    refine ⟨r, x, hx, by omega, (holdsK_iff hx i0 ij j1).2 hH, fun c hc => ?_⟩
    obtain ⟨y, hy⟩ : ∃ y, x.conj[c]? = some y := ⟨_, List.getElem?_eq_getElem hc⟩
    rw [rankV_ckey hx hy i0 ij j1, hT]
    have := topTo_at (f := fun c => P r c 0 k.i k.j) hc
    omega
  · obtain ⟨i0, ij, j1⟩ := spanV_iff.1 (hsp k h)
    obtain ⟨rn, cn, qn, x, y, e1, e2, e3, hx, hy, hq⟩ := hkey k h hk
    have hp : k.plc = ⟨rn, cn, qn⟩ := by cases hkp : k.plc; simp_all
    rw [hp, symOf_at hx hy] at hs
    have hql : qn = y.seq.length := by
      have := List.getElem?_eq_none_iff.1 hs
      omega
    have hR := rankV_seq (N := N) (P := P) (W := W) hx hy hq i0 ij j1
    rw [hsq k hk, hp, hR] at h
    rw [hsq k hk, hp, hR]
    have := V.pEnd rn x cn y k.i k.j hx hy i0 ij j1
    rw [← hql] at this
    rw [this] at h ⊢
    split at h
    · rename_i he; rw [if_pos he]; exact ⟨he, rfl⟩
    · omega
  · obtain ⟨i0, ij, j1⟩ := spanV_iff.1 (hsp k h)
    obtain ⟨rn, cn, qn, x, y, e1, e2, e3, hx, hy, hq⟩ := hkey k h hk
    have hp : k.plc = ⟨rn, cn, qn⟩ := by cases hkp : k.plc; simp_all
    rw [hp, symOf_at hx hy] at hs
    have hql : qn < y.seq.length := (List.getElem?_eq_some_iff.1 hs).1
    have hR := rankV_seq (N := N) (P := P) (W := W) hx hy hq i0 ij j1
    rw [hsq k hk, hp, hR] at h
    have e := V.pByte rn x cn y qn s k.i k.j hx hy hs hn i0 ij j1
    rw [e] at h
    split at h
    · rename_i hc
      have hR2 := rankV_seq (N := N) (P := P) (W := W) (q := qn + 1) hx hy hql (by omega) (show k.i + 1 ≤ k.j by omega) j1
      have hon : onP k.plc = ⟨rn, cn, ((qn + 1 : Nat) : Int)⟩ := by rw [hp]; unfold onP; push_cast; rfl
      rw [hon, hR2]
      refine ⟨hc.1, hc.2.1, hc.2.2.1, hc.2.2.2, ?_⟩
      rw [hsq k hk, hp, hR, e, if_pos hc]
      omega
    · omega
  · obtain ⟨i0, ij, j1⟩ := spanV_iff.1 (hsp k h)
    obtain ⟨rn, cn, qn, x, y, e1, e2, e3, hx, hy, hq⟩ := hkey k h hk
    have hp : k.plc = ⟨rn, cn, qn⟩ := by cases hkp : k.plc; simp_all
    rw [hp, symOf_at hx hy] at hs
    have hql : qn < y.seq.length := (List.getElem?_eq_some_iff.1 hs).1
    have hR := rankV_seq (N := N) (P := P) (W := W) hx hy hq i0 ij j1
    have hb := V.pName rn x cn y qn s k.i k.j hx hy hs hn i0 ij j1
    rw [hsq k hk, hp, hR] at h
    obtain ⟨d, hd, f0, g0, hv⟩ := hb.is h
    have hsn := symB_lt (M.sym rn x cn y qn s hx hy hs) (by have := M.K1; omega)
    have hdj : k.i + d ≤ k.j := by omega
    have hR2 := rankV_seq (N := N) (P := P) (W := W) (q := qn + 1) hx hy hql (show 0 ≤ k.i + d by omega) hdj j1
    have hR1 : rankV G W N P (nameKey s.name k.i (k.i + d)) = N s.name.toNat k.i (k.i + d) := rankV_name (by omega) i0 (by omega) (by omega) _ rfl (by simp only [nameKey]; omega) rfl rfl
    have hon : onP k.plc = ⟨rn, cn, ((qn + 1 : Nat) : Int)⟩ := by rw [hp]; unfold onP; push_cast; rfl
    refine ⟨d, hdj, ?_⟩
    rw [hon, hR2, hR1, hsq k hk, hp, hR, hv]
    refine ⟨f0, g0, ?_, ?_⟩ <;> omega
end
end Go.Proofs.Ytbidpeggdhkahaa
