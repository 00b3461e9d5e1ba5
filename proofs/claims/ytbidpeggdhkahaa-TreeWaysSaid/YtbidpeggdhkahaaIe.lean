/-
  Ie: slices.Reverse at keys.
-/
import Derived.Test.YtbidpeggdhkahaaId
set_option linter.unusedSimpArgs false
set_option linter.unusedVariables false
namespace Go.Proofs.Ytbidpeggdhkahaa
open Go.RowKit

/-- The keys of a row, i of them turned from each end. -/
def revF (ks : List Ky) (i t : Nat) : Option Ky := if t < i ∨ ks.length - i ≤ t then ks[ks.length - 1 - t]? else ks[t]?
/-- A key stored at a place of a row. -/
def setAt (W : World) (g p : Nat) (q : Ky) : World := (((((((W).setCell ⟨g, p, none⟩ (.int .i64 q.kind)).setCell ⟨g, p + 1, none⟩ (.int .i64 q.name)).setCell ⟨g, p + 2, none⟩ (.int .i64 q.plc.rule)).setCell ⟨g, p + 3, none⟩ (.int .i64 q.plc.conj)).setCell ⟨g, p + 4, none⟩ (.int .i64 q.plc.pos)).setCell ⟨g, p + 5, none⟩ (.int .i64 q.i)).setCell ⟨g, p + 6, none⟩ (.int .i64 q.j)
def setArr (cur : Array Value) (p : Nat) (q : Ky) : Array Value := (((((((cur).setIfInBounds (p) (.int .i64 q.kind)).setIfInBounds (p + 1) (.int .i64 q.name)).setIfInBounds (p + 2) (.int .i64 q.plc.rule)).setIfInBounds (p + 3) (.int .i64 q.plc.conj)).setIfInBounds (p + 4) (.int .i64 q.plc.pos)).setIfInBounds (p + 5) (.int .i64 q.i)).setIfInBounds (p + 6) (.int .i64 q.j)
theorem setAt_heap {W : World} {g p : Nat} {q : Ky} {cur : Array Value} (h : W.heap[g]? = some (.cells cur 59 (0, 0))) : (setAt W g p q).heap[g]? = some (.cells (setArr cur p q) 59 (0, 0)) :=
  blk_set (blk_set (blk_set (blk_set (blk_set (blk_set (blk_set (h) (p) (.int .i64 q.kind)) (p + 1) (.int .i64 q.name)) (p + 2) (.int .i64 q.plc.rule)) (p + 3) (.int .i64 q.plc.conj)) (p + 4) (.int .i64 q.plc.pos)) (p + 5) (.int .i64 q.i)) (p + 6) (.int .i64 q.j)
theorem setArr_far {cur : Array Value} {p s : Nat} {q : Ky} (h : s < p ∨ p + 7 ≤ s) : (setArr cur p q)[s]? = cur[s]? := by
  unfold setArr
  simp only [Array.getElem?_setIfInBounds]
  repeat rw [if_neg (by omega)]
theorem setArr_size {cur : Array Value} {p : Nat} {q : Ky} : (setArr cur p q).size = cur.size := by unfold setArr; simp
theorem setArr_at {cur : Array Value} {p : Nat} {q : Ky} (hs : p + 6 < cur.size) : (setArr cur p q)[p]? = some (.int .i64 q.kind) ∧ (setArr cur p q)[p + 1]? = some (.int .i64 q.name) ∧ (setArr cur p q)[p + 2]? = some (.int .i64 q.plc.rule) ∧ (setArr cur p q)[p + 3]? = some (.int .i64 q.plc.conj) ∧ (setArr cur p q)[p + 4]? = some (.int .i64 q.plc.pos) ∧ (setArr cur p q)[p + 5]? = some (.int .i64 q.i) ∧ (setArr cur p q)[p + 6]? = some (.int .i64 q.j) := by
  unfold setArr
  refine ⟨?_, ?_, ?_, ?_, ?_, ?_, ?_⟩ <;>
    simp [Array.getElem?_setIfInBounds] <;> omega
theorem setAt_upd (W : World) (g p : Nat) (q : Ky) : Upd (fun b => b = g) W (setAt W g p q) :=
  (((((((Upd.refl (fun b => b = g) W).setCell (p := ⟨g, p, none⟩) rfl _).setCell (p := ⟨g, p + 1, none⟩) rfl _).setCell (p := ⟨g, p + 2, none⟩) rfl _).setCell (p := ⟨g, p + 3, none⟩) rfl _).setCell (p := ⟨g, p + 4, none⟩) rfl _).setCell (p := ⟨g, p + 5, none⟩) rfl _).setCell (p := ⟨g, p + 6, none⟩) rfl _
/-- Two keys change places in a row. -/
theorem swap_at {wr : World} {g i jn : Nat} {cur : Array Value} {a b : Ky} (hij : i < jn) (hcur : wr.heap[g]? = some (.cells cur 59 (0, 0))) (Ka : KyAt wr ⟨g, i * 7, none⟩ a) (Kb : KyAt wr ⟨g, jn * 7, none⟩ b) :
    (∃ cur', (setAt (setAt wr g (i * 7) b) g (jn * 7) a).heap[g]? = some (.cells cur' 59 (0, 0))) ∧ KyAt (setAt (setAt wr g (i * 7) b) g (jn * 7) a) ⟨g, i * 7, none⟩ b ∧ KyAt (setAt (setAt wr g (i * 7) b) g (jn * 7) a) ⟨g, jn * 7, none⟩ a ∧
    (∀ (t : Nat) (q : Ky), t ≠ i → t ≠ jn → KyAt wr ⟨g, t * 7, none⟩ q → KyAt (setAt (setAt wr g (i * 7) b) g (jn * 7) a) ⟨g, t * 7, none⟩ q) ∧ Upd (fun b => b = g) wr (setAt (setAt wr g (i * 7) b) g (jn * 7) a) := by
  have h1 := setAt_heap (p := i * 7) (q := b) hcur
  have h2 := setAt_heap (p := jn * 7) (q := a) h1
  have sz : jn * 7 + 6 < cur.size := by
    have h := Kb.c6
    rw [blk_cell hcur] at h
    exact (Array.getElem?_eq_some_iff.1 h).1
  have A1 := setArr_at (cur := cur) (p := i * 7) (q := b) (by omega)
  have A2 := setArr_at (cur := setArr cur (i * 7) b) (p := jn * 7) (q := a) (by rw [setArr_size]; exact sz)
  have far : ∀ s, s < jn * 7 ∨ jn * 7 + 7 ≤ s → (setAt (setAt wr g (i * 7) b) g (jn * 7) a).cell? ⟨g, s, none⟩ = (setArr cur (i * 7) b)[s]? := fun s hs => by rw [blk_cell h2, setArr_far hs]
  have far2 : ∀ s, (s < jn * 7 ∨ jn * 7 + 7 ≤ s) → (s < i * 7 ∨ i * 7 + 7 ≤ s) → (setAt (setAt wr g (i * 7) b) g (jn * 7) a).cell? ⟨g, s, none⟩ = wr.cell? ⟨g, s, none⟩ := fun s hs hs2 => by rw [far s hs, setArr_far hs2, blk_cell hcur]
  refine ⟨⟨_, h2⟩, ⟨?_, ?_, ?_, ?_, ?_, ?_, ?_⟩, ⟨?_, ?_, ?_, ?_, ?_, ?_, ?_⟩, fun t q h3 h4 K => ?_, (setAt_upd _ _ _ _).trans (setAt_upd _ _ _ _)⟩
  · exact (far (i * 7) (by omega)).trans A1.1
  · exact (far (i * 7 + 1) (by omega)).trans A1.2.1
  · exact (far (i * 7 + 2) (by omega)).trans A1.2.2.1
  · exact (far (i * 7 + 3) (by omega)).trans A1.2.2.2.1
  · exact (far (i * 7 + 4) (by omega)).trans A1.2.2.2.2.1
  · exact (far (i * 7 + 5) (by omega)).trans A1.2.2.2.2.2.1
  · exact (far (i * 7 + 6) (by omega)).trans A1.2.2.2.2.2.2
  · exact (blk_cell h2 _).trans A2.1
  · exact (blk_cell h2 _).trans A2.2.1
  · exact (blk_cell h2 _).trans A2.2.2.1
  · exact (blk_cell h2 _).trans A2.2.2.2.1
  · exact (blk_cell h2 _).trans A2.2.2.2.2.1
  · exact (blk_cell h2 _).trans A2.2.2.2.2.2.1
  · exact (blk_cell h2 _).trans A2.2.2.2.2.2.2
  · have e : ∀ r, r < 7 → (setAt (setAt wr g (i * 7) b) g (jn * 7) a).cell? ⟨g, t * 7 + r, none⟩ = wr.cell? ⟨g, t * 7 + r, none⟩ := fun r hr => far2 _ (by omega) (by omega)
    exact ⟨(e 0 (by omega)).trans K.c0, (e 1 (by omega)).trans K.c1, (e 2 (by omega)).trans K.c2, (e 3 (by omega)).trans K.c3, (e 4 (by omega)).trans K.c4, (e 5 (by omega)).trans K.c5, (e 6 (by omega)).trans K.c6⟩

/-- The loop of 'Reverse'. -/
def RvR (w : World) (g : Nat) (ks : List Ky) (s2 s3 : Value) (wr : World) : Prop :=
  ∃ (i : Nat) (z : Int), s2 = .int .i64 i ∧ s3 = .int .i64 z ∧ z = (ks.length : Int) - 1 - i ∧ 2 * i ≤ ks.length + 1 ∧ (∃ cur, wr.heap[g]? = some (.cells cur 59 (0, 0))) ∧
    (∀ (t : Nat) (q : Ky), revF ks i t = some q → t < ks.length → KyAt wr ⟨g, t * 7, none⟩ q) ∧ Upd (fun b => b = g) w wr

set_option maxRecDepth 100000 in
set_option maxHeartbeats 8000000 in
theorem kReverse {w : World} {ks : List Ky} {g c base : Nat} (ho : Own kyRd 59 base w (.slice (some ⟨g, 0, none⟩) ks.length c) ks) (hc : c ≤ 9223372036854775807) (hn : ks.length ≤ 10000) :
    Calls Try.prog 17 #[.slice (some ⟨g, 0, none⟩) ks.length c] w fun e w' => e = .returned (.tuple #[]) ∧ kyRd.C w' (some ⟨g, 0, none⟩) ks.reverse ∧ Upd (fun b => b = g) w w' := by
  have hcap : ks.length ≤ c := by
    obtain ⟨A', c', e, h, -, -⟩ := ho.shape
    injection e with _ _ e
    omega
  have HO := Lib.hid ho
  clear ho
  have ew : IntKind.i64.wrap ((ks.length : Int) - 1) = (ks.length : Int) - 1 := IntWalk.i64_in _ (by omega)
  go_enter Try.func17, Try.ntmps17
  go_wp2_with fail
  go_loopw [2, 3] (fun s2 s3 wr => RvR w g ks s2 s3 wr) (fun s2 _ _ => ks.length - (intOf s2).toNat)
  case atStart =>
    refine ⟨0, _, rfl, rfl, by simp, by omega, own_block_type HO.out rfl, fun t q ht htl => ?_, Upd.refl _ _⟩
    unfold revF at ht
    rw [if_neg (by omega)] at ht
    obtain ⟨A', c', e, _, _, hC⟩ := HO.out.shape
    injection e with e _ _
    subst e
    obtain ⟨ad, e2, K⟩ := ky_at hC ht
    injection e2 with e2
    subst e2
    rw [add_plain, Nat.zero_add] at K
    exact K
  case round =>
    obtain ⟨i, z, rfl, rfl, hz, hi, ⟨cur, hcur⟩, hF, hu⟩ := hrel
    by_cases hlt : i + 1 + i < ks.length
    · obtain ⟨jn, hjn⟩ : ∃ jn : Nat, z = (jn : Int) := ⟨z.toNat, by omega⟩
      subst hjn
      have hltz : (i : Int) < (jn : Int) := by omega
      have hjl : jn < ks.length := by omega
      have hji : i < jn := by omega
      have b1 : (jn : Int) < (ks.length : Int) := by omega
      have b2 : (i : Int) < (ks.length : Int) := by omega
      obtain ⟨a, ha⟩ : ∃ a, ks[i]? = some a := ⟨_, List.getElem?_eq_getElem (by omega)⟩
      obtain ⟨b, hb⟩ : ∃ b, ks[jn]? = some b := ⟨_, List.getElem?_eq_getElem hjl⟩
      have Ka := hF i a (by unfold revF; rw [if_neg (by omega)]; exact ha) (by omega)
      have Kb := hF jn b (by unfold revF; rw [if_neg (by omega)]; exact hb) hjl
      have a0 : wr.cell? ⟨g, i * 7, none⟩ = some (.int .i64 a.kind) := Ka.c0
      have a1 : wr.cell? ⟨g, i * 7 + 1, none⟩ = some (.int .i64 a.name) := Ka.c1
      have a2 : wr.cell? ⟨g, i * 7 + 2, none⟩ = some (.int .i64 a.plc.rule) := Ka.c2
      have a3 : wr.cell? ⟨g, i * 7 + 3, none⟩ = some (.int .i64 a.plc.conj) := Ka.c3
      have a4 : wr.cell? ⟨g, i * 7 + 4, none⟩ = some (.int .i64 a.plc.pos) := Ka.c4
      have a5 : wr.cell? ⟨g, i * 7 + 5, none⟩ = some (.int .i64 a.i) := Ka.c5
      have a6 : wr.cell? ⟨g, i * 7 + 6, none⟩ = some (.int .i64 a.j) := Ka.c6
      have b0 : wr.cell? ⟨g, jn * 7, none⟩ = some (.int .i64 b.kind) := Kb.c0
      have b1 : wr.cell? ⟨g, jn * 7 + 1, none⟩ = some (.int .i64 b.name) := Kb.c1
      have b2 : wr.cell? ⟨g, jn * 7 + 2, none⟩ = some (.int .i64 b.plc.rule) := Kb.c2
      have b3 : wr.cell? ⟨g, jn * 7 + 3, none⟩ = some (.int .i64 b.plc.conj) := Kb.c3
      have b4 : wr.cell? ⟨g, jn * 7 + 4, none⟩ = some (.int .i64 b.plc.pos) := Kb.c4
      have b5 : wr.cell? ⟨g, jn * 7 + 5, none⟩ = some (.int .i64 b.i) := Kb.c5
      have b6 : wr.cell? ⟨g, jn * 7 + 6, none⟩ = some (.int .i64 b.j) := Kb.c6
      have fz : ∀ p, wr.frozen? ⟨g, p, none⟩ = false := fun p => blk_frozen hcur p
      have hne : ∀ r s : Nat, r < 7 → s < 7 → i * 7 + r ≠ jn * 7 + s := fun r s hr hs => by omega
      have ez : IntKind.i64.wrap ((jn : Int) - 1) = (jn : Int) - 1 := IntWalk.i64_in _ (by omega)
      have ei : IntKind.i64.wrap ((i : Int) + 1) = (i : Int) + 1 := IntWalk.i64_in _ (by omega)
      have KA := Lib.hid Ka
      have KB := Lib.hid Kb
      have HFF := Lib.hid hF
      have HU := Lib.hid hu
      have HCUR := Lib.hid hcur
      have HZ := Lib.hid hz
      clear hF hu hcur Ka Kb hz
      go_upto_region 3 with fail
      go_region_law (fail)
      all_goals
        have hw := swap_at hji HCUR.out KA.out KB.out
        change Exit.inBlock _ _ _ _ (setAt (setAt wr g (i * 7) b) g (jn * 7) a).drew
        generalize setAt (setAt wr g (i * 7) b) g (jn * 7) a = w9 at hw ⊢
        have HW9 := Lib.hid hw
        clear hw
        go_wp2_with fail
        go_roundw
        case rel =>
          obtain ⟨⟨cur', h1⟩, h2, h3, h4, h5⟩ := HW9.out
          refine ⟨i + 1, _, by go_num, rfl, by have := HZ.out; push_cast; omega, by omega, ⟨cur', h1⟩, fun t q ht htl => ?_, HU.out.trans h5.drew⟩
          have hz := HZ.out
          by_cases e1 : t = i
          · subst e1
            unfold revF at ht
            rw [if_pos (by omega), show ks.length - 1 - t = jn by omega, hb] at ht
            injection ht with ht
            rw [← ht]; exact ⟨h2.c0, h2.c1, h2.c2, h2.c3, h2.c4, h2.c5, h2.c6⟩
          · by_cases e2 : t = jn
            · subst e2
              unfold revF at ht
              rw [if_pos (by omega), show ks.length - 1 - t = i by omega, ha] at ht
              injection ht with ht
              rw [← ht]; exact ⟨h3.c0, h3.c1, h3.c2, h3.c3, h3.c4, h3.c5, h3.c6⟩
            · have h6 := h4 t q e1 e2 (HFF.out t q (by
                unfold revF at ht ⊢
                split at ht
                · rw [if_pos (by omega)]; exact ht
                · rw [if_neg (by omega)]; exact ht) htl)
              exact ⟨h6.c0, h6.c1, h6.c2, h6.c3, h6.c4, h6.c5, h6.c6⟩
        case measure => simp [intOf]; omega
    · have hltz : ¬ (i : Int) < z := by omega
      have HFF := Lib.hid hF
      have HU := Lib.hid hu
      clear hF hu hcur hz
      go_wp2_with fail
      refine ⟨rfl, .tuple #[], by simp [results, Try.results17, go_sem], ?_⟩
      refine ⟨rfl, fun t q ht => ⟨⟨g, 0, none⟩, kyCs q, rfl, rfl, ?_⟩, HU.out⟩
      have htl : t < ks.length := by have := (List.getElem?_eq_some_iff.1 ht).1; simpa using this
      rw [List.getElem?_reverse (by simpa using htl)] at ht
      have K := HFF.out t q (by
        unfold revF
        by_cases h : t < i ∨ ks.length - i ≤ t
        · rw [if_pos h]; exact ht
        · rw [if_neg h, show t = ks.length - 1 - t by omega]; exact ht) htl
      intro j v hv
      rw [add_plain, Nat.zero_add, show kyRd.sz = 7 from rfl]
      match j, hv with
      | 0, hv => simp [kyCs] at hv; rw [← hv]; exact K.c0
      | 1, hv => simp [kyCs] at hv; rw [← hv]; exact K.c1
      | 2, hv => simp [kyCs] at hv; rw [← hv]; exact K.c2
      | 3, hv => simp [kyCs] at hv; rw [← hv]; exact K.c3
      | 4, hv => simp [kyCs] at hv; rw [← hv]; exact K.c4
      | 5, hv => simp [kyCs] at hv; rw [← hv]; exact K.c5
      | 6, hv => simp [kyCs] at hv; rw [← hv]; exact K.c6
      | j + 7, hv => simp [kyCs] at hv
end Go.Proofs.Ytbidpeggdhkahaa
