/-
  Ie: slices.Reverse at keys.
  If: branches in memory; a slice less its last element; Reverse of nothing.
  Ig: tree.First.
-/
import Derived.Test.YtbidpeggdhkahaaGreatId
set_option linter.unusedSimpArgs false
set_option linter.unusedVariables false
namespace Go.Proofs.YtbidpeggdhkahaaGreat
open Go.RowKit

/-- The keys of a row, i of them turned from each end. -/
def revF (ks : List Ky) (i t : Nat) : Option Ky := if t < i ∨ ks.length - i ≤ t then ks[ks.length - 1 - t]? else ks[t]?
/-- A key stored at a place of a row. -/
def setAt (W : World) (g p : Nat) (q : Ky) : World := (((((((W).setCell ⟨g, p, none⟩ (.int .i64 q.kind)).setCell ⟨g, p + 1, none⟩ (.int .i64 q.name)).setCell ⟨g, p + 2, none⟩ (.int .i64 q.plc.rule)).setCell ⟨g, p + 3, none⟩ (.int .i64 q.plc.conj)).setCell ⟨g, p + 4, none⟩ (.int .i64 q.plc.pos)).setCell ⟨g, p + 5, none⟩ (.int .i64 q.i)).setCell ⟨g, p + 6, none⟩ (.int .i64 q.j)
def setArr (cur : Array Value) (p : Nat) (q : Ky) : Array Value := (((((((cur).setIfInBounds (p) (.int .i64 q.kind)).setIfInBounds (p + 1) (.int .i64 q.name)).setIfInBounds (p + 2) (.int .i64 q.plc.rule)).setIfInBounds (p + 3) (.int .i64 q.plc.conj)).setIfInBounds (p + 4) (.int .i64 q.plc.pos)).setIfInBounds (p + 5) (.int .i64 q.i)).setIfInBounds (p + 6) (.int .i64 q.j)
theorem setAt_heap {W : World} {g p : Nat} {q : Ky} {cur : Array Value} (h : W.heap[g]? = some (.cells cur 59 (0, 0))) : (setAt W g p q).heap[g]? = some (.cells (setArr cur p q) 59 (0, 0)) :=
  blk_set (blk_set (blk_set (blk_set (blk_set (blk_set (blk_set (h) (p) (.int .i64 q.kind)) (p + 1) (.int .i64 q.name)) (p + 2) (.int .i64 q.plc.rule)) (p + 3) (.int .i64 q.plc.conj)) (p + 4) (.int .i64 q.plc.pos)) (p + 5) (.int .i64 q.i)) (p + 6) (.int .i64 q.j)
theorem setArr_far {cur : Array Value} {p s : Nat} {q : Ky} (h : s < p ∨ p + 7 ≤ s) : (setArr cur p q)[s]? = cur[s]? := by
  unfold setArr
  simp only [Array.getElem?_setIfInBounds]
  repeat rw [if_neg (by omega)]
theorem setArr_size {cur : Array Value} {p : Nat} {q : Ky} : (setArr cur p q).size = cur.size := by unfold setArr; simp
theorem setArr_at {cur : Array Value} {p : Nat} {q : Ky} (hs : p + 6 < cur.size) : (setArr cur p q)[p]? = some (.int .i64 q.kind) ∧ (setArr cur p q)[p + 1]? = some (.int .i64 q.name) ∧ (setArr cur p q)[p + 2]? = some (.int .i64 q.plc.rule) ∧ (setArr cur p q)[p + 3]? = some (.int .i64 q.plc.conj) ∧ (setArr cur p q)[p + 4]? = some (.int .i64 q.plc.pos) ∧ (setArr cur p q)[p + 5]? = some (.int .i64 q.i) ∧ (setArr cur p q)[p + 6]? = some (.int .i64 q.j) := by
  unfold setArr
  refine ⟨?_, ?_, ?_, ?_, ?_, ?_, ?_⟩ <;>
    simp [Array.getElem?_setIfInBounds] <;> omega
theorem setAt_upd (W : World) (g p : Nat) (q : Ky) : Upd (fun b => b = g) W (setAt W g p q) :=
  (((((((Upd.refl (fun b => b = g) W).setCell (p := ⟨g, p, none⟩) rfl _).setCell (p := ⟨g, p + 1, none⟩) rfl _).setCell (p := ⟨g, p + 2, none⟩) rfl _).setCell (p := ⟨g, p + 3, none⟩) rfl _).setCell (p := ⟨g, p + 4, none⟩) rfl _).setCell (p := ⟨g, p + 5, none⟩) rfl _).setCell (p := ⟨g, p + 6, none⟩) rfl _
/-- Two keys change places in a row. -/
theorem swap_at {wr : World} {g i jn : Nat} {cur : Array Value} {a b : Ky} (hij : i < jn) (hcur : wr.heap[g]? = some (.cells cur 59 (0, 0))) (Ka : KyAt wr ⟨g, i * 7, none⟩ a) (Kb : KyAt wr ⟨g, jn * 7, none⟩ b) :
    (∃ cur', (setAt (setAt wr g (i * 7) b) g (jn * 7) a).heap[g]? = some (.cells cur' 59 (0, 0))) ∧ KyAt (setAt (setAt wr g (i * 7) b) g (jn * 7) a) ⟨g, i * 7, none⟩ b ∧ KyAt (setAt (setAt wr g (i * 7) b) g (jn * 7) a) ⟨g, jn * 7, none⟩ a ∧
    (∀ (t : Nat) (q : Ky), t ≠ i → t ≠ jn → KyAt wr ⟨g, t * 7, none⟩ q → KyAt (setAt (setAt wr g (i * 7) b) g (jn * 7) a) ⟨g, t * 7, none⟩ q) ∧ Upd (fun b => b = g) wr (setAt (setAt wr g (i * 7) b) g (jn * 7) a) := by
  have h1 := setAt_heap (p := i * 7) (q := b) hcur
  have h2 := setAt_heap (p := jn * 7) (q := a) h1
  have sz : jn * 7 + 6 < cur.size := by
    have h := Kb.c6
    rw [blk_cell hcur] at h
    exact (Array.getElem?_eq_some_iff.1 h).1
  have A1 := setArr_at (cur := cur) (p := i * 7) (q := b) (by omega)
  have A2 := setArr_at (cur := setArr cur (i * 7) b) (p := jn * 7) (q := a) (by rw [setArr_size]; exact sz)
  have far : ∀ s, s < jn * 7 ∨ jn * 7 + 7 ≤ s → (setAt (setAt wr g (i * 7) b) g (jn * 7) a).cell? ⟨g, s, none⟩ = (setArr cur (i * 7) b)[s]? := fun s hs => by rw [blk_cell h2, setArr_far hs]
  have far2 : ∀ s, (s < jn * 7 ∨ jn * 7 + 7 ≤ s) → (s < i * 7 ∨ i * 7 + 7 ≤ s) → (setAt (setAt wr g (i * 7) b) g (jn * 7) a).cell? ⟨g, s, none⟩ = wr.cell? ⟨g, s, none⟩ := fun s hs hs2 => by rw [far s hs, setArr_far hs2, blk_cell hcur]
  refine ⟨⟨_, h2⟩, ⟨?_, ?_, ?_, ?_, ?_, ?_, ?_⟩, ⟨?_, ?_, ?_, ?_, ?_, ?_, ?_⟩, fun t q h3 h4 K => ?_, (setAt_upd _ _ _ _).trans (setAt_upd _ _ _ _)⟩
  · exact (far (i * 7) (by omega)).trans A1.1
  · exact (far (i * 7 + 1) (by omega)).trans A1.2.1
  · exact (far (i * 7 + 2) (by omega)).trans A1.2.2.1
  · exact (far (i * 7 + 3) (by omega)).trans A1.2.2.2.1
  · exact (far (i * 7 + 4) (by omega)).trans A1.2.2.2.2.1
  · exact (far (i * 7 + 5) (by omega)).trans A1.2.2.2.2.2.1
  · exact (far (i * 7 + 6) (by omega)).trans A1.2.2.2.2.2.2
  · exact (blk_cell h2 _).trans A2.1
  · exact (blk_cell h2 _).trans A2.2.1
  · exact (blk_cell h2 _).trans A2.2.2.1
  · exact (blk_cell h2 _).trans A2.2.2.2.1
  · exact (blk_cell h2 _).trans A2.2.2.2.2.1
  · exact (blk_cell h2 _).trans A2.2.2.2.2.2.1
  · exact (blk_cell h2 _).trans A2.2.2.2.2.2.2
  · have e : ∀ r, r < 7 → (setAt (setAt wr g (i * 7) b) g (jn * 7) a).cell? ⟨g, t * 7 + r, none⟩ = wr.cell? ⟨g, t * 7 + r, none⟩ := fun r hr => far2 _ (by omega) (by omega)
    exact ⟨(e 0 (by omega)).trans K.c0, (e 1 (by omega)).trans K.c1, (e 2 (by omega)).trans K.c2, (e 3 (by omega)).trans K.c3, (e 4 (by omega)).trans K.c4, (e 5 (by omega)).trans K.c5, (e 6 (by omega)).trans K.c6⟩

/-- The loop of 'Reverse'. -/
def RvR (w : World) (g : Nat) (ks : List Ky) (s2 s3 : Value) (wr : World) : Prop :=
  ∃ (i : Nat) (z : Int), s2 = .int .i64 i ∧ s3 = .int .i64 z ∧ z = (ks.length : Int) - 1 - i ∧ 2 * i ≤ ks.length + 1 ∧ (∃ cur, wr.heap[g]? = some (.cells cur 59 (0, 0))) ∧
    (∀ (t : Nat) (q : Ky), revF ks i t = some q → t < ks.length → KyAt wr ⟨g, t * 7, none⟩ q) ∧ Upd (fun b => b = g) w wr

set_option maxRecDepth 100000 in
set_option maxHeartbeats 8000000 in
theorem kReverse {w : World} {ks : List Ky} {g c base : Nat} (ho : Own kyRd 59 base w (.slice (some ⟨g, 0, none⟩) ks.length c) ks) (hc : c ≤ 9223372036854775807) (hn : ks.length ≤ 10000) :
    Calls Tryz.prog 22 #[.slice (some ⟨g, 0, none⟩) ks.length c] w fun e w' => e = .returned (.tuple #[]) ∧ kyRd.C w' (some ⟨g, 0, none⟩) ks.reverse ∧ Upd (fun b => b = g) w w' := by
  have hcap : ks.length ≤ c := by
    obtain ⟨A', c', e, h, -, -⟩ := ho.shape
    injection e with _ _ e
    omega
  have HO := Lib.hid ho
  clear ho
  have ew : IntKind.i64.wrap ((ks.length : Int) - 1) = (ks.length : Int) - 1 := IntWalk.i64_in _ (by omega)
  go_enter Tryz.func22, Tryz.ntmps22
  go_wp2_with fail
  go_loopw [2, 3] (fun s2 s3 wr => RvR w g ks s2 s3 wr) (fun s2 _ _ => ks.length - (intOf s2).toNat)
  case atStart =>
    refine ⟨0, _, rfl, rfl, by simp, by omega, own_block_type HO.out rfl, fun t q ht htl => ?_, Upd.refl _ _⟩
    unfold revF at ht
    rw [if_neg (by omega)] at ht
    obtain ⟨A', c', e, _, _, hC⟩ := HO.out.shape
    injection e with e _ _
    subst e
    obtain ⟨ad, e2, K⟩ := ky_at hC ht
    injection e2 with e2
    subst e2
    rw [add_plain, Nat.zero_add] at K
    exact K
  case round =>
    obtain ⟨i, z, rfl, rfl, hz, hi, ⟨cur, hcur⟩, hF, hu⟩ := hrel
    by_cases hlt : i + 1 + i < ks.length
    · obtain ⟨jn, hjn⟩ : ∃ jn : Nat, z = (jn : Int) := ⟨z.toNat, by omega⟩
      subst hjn
      have hltz : (i : Int) < (jn : Int) := by omega
      have hjl : jn < ks.length := by omega
      have hji : i < jn := by omega
      have b1 : (jn : Int) < (ks.length : Int) := by omega
      have b2 : (i : Int) < (ks.length : Int) := by omega
      obtain ⟨a, ha⟩ : ∃ a, ks[i]? = some a := ⟨_, List.getElem?_eq_getElem (by omega)⟩
      obtain ⟨b, hb⟩ : ∃ b, ks[jn]? = some b := ⟨_, List.getElem?_eq_getElem hjl⟩
      have Ka := hF i a (by unfold revF; rw [if_neg (by omega)]; exact ha) (by omega)
      have Kb := hF jn b (by unfold revF; rw [if_neg (by omega)]; exact hb) hjl
      have a0 : wr.cell? ⟨g, i * 7, none⟩ = some (.int .i64 a.kind) := Ka.c0
      have a1 : wr.cell? ⟨g, i * 7 + 1, none⟩ = some (.int .i64 a.name) := Ka.c1
      have a2 : wr.cell? ⟨g, i * 7 + 2, none⟩ = some (.int .i64 a.plc.rule) := Ka.c2
      have a3 : wr.cell? ⟨g, i * 7 + 3, none⟩ = some (.int .i64 a.plc.conj) := Ka.c3
      have a4 : wr.cell? ⟨g, i * 7 + 4, none⟩ = some (.int .i64 a.plc.pos) := Ka.c4
      have a5 : wr.cell? ⟨g, i * 7 + 5, none⟩ = some (.int .i64 a.i) := Ka.c5
      have a6 : wr.cell? ⟨g, i * 7 + 6, none⟩ = some (.int .i64 a.j) := Ka.c6
      have b0 : wr.cell? ⟨g, jn * 7, none⟩ = some (.int .i64 b.kind) := Kb.c0
      have b1 : wr.cell? ⟨g, jn * 7 + 1, none⟩ = some (.int .i64 b.name) := Kb.c1
      have b2 : wr.cell? ⟨g, jn * 7 + 2, none⟩ = some (.int .i64 b.plc.rule) := Kb.c2
      have b3 : wr.cell? ⟨g, jn * 7 + 3, none⟩ = some (.int .i64 b.plc.conj) := Kb.c3
      have b4 : wr.cell? ⟨g, jn * 7 + 4, none⟩ = some (.int .i64 b.plc.pos) := Kb.c4
      have b5 : wr.cell? ⟨g, jn * 7 + 5, none⟩ = some (.int .i64 b.i) := Kb.c5
      have b6 : wr.cell? ⟨g, jn * 7 + 6, none⟩ = some (.int .i64 b.j) := Kb.c6
      have fz : ∀ p, wr.frozen? ⟨g, p, none⟩ = false := fun p => blk_frozen hcur p
      have hne : ∀ r s : Nat, r < 7 → s < 7 → i * 7 + r ≠ jn * 7 + s := fun r s hr hs => by omega
      have ez : IntKind.i64.wrap ((jn : Int) - 1) = (jn : Int) - 1 := IntWalk.i64_in _ (by omega)
      have ei : IntKind.i64.wrap ((i : Int) + 1) = (i : Int) + 1 := IntWalk.i64_in _ (by omega)
      have KA := Lib.hid Ka
      have KB := Lib.hid Kb
      have HFF := Lib.hid hF
      have HU := Lib.hid hu
      have HCUR := Lib.hid hcur
      have HZ := Lib.hid hz
      clear hF hu hcur Ka Kb hz
      go_upto_region 3 with fail
      go_region_law (fail)
      all_goals
        have hw := swap_at hji HCUR.out KA.out KB.out
        change Exit.inBlock _ _ _ _ (setAt (setAt wr g (i * 7) b) g (jn * 7) a).drew
        generalize setAt (setAt wr g (i * 7) b) g (jn * 7) a = w9 at hw ⊢
        have HW9 := Lib.hid hw
        clear hw
        go_wp2_with fail
        go_roundw
        case rel =>
          obtain ⟨⟨cur', h1⟩, h2, h3, h4, h5⟩ := HW9.out
          refine ⟨i + 1, _, by go_num, rfl, by have := HZ.out; push_cast; omega, by omega, ⟨cur', h1⟩, fun t q ht htl => ?_, HU.out.trans h5.drew⟩
          have hz := HZ.out
          by_cases e1 : t = i
          · subst e1
            unfold revF at ht
            rw [if_pos (by omega), show ks.length - 1 - t = jn by omega, hb] at ht
            injection ht with ht
            rw [← ht]; exact ⟨h2.c0, h2.c1, h2.c2, h2.c3, h2.c4, h2.c5, h2.c6⟩
          · by_cases e2 : t = jn
            · subst e2
              unfold revF at ht
              rw [if_pos (by omega), show ks.length - 1 - t = i by omega, ha] at ht
              injection ht with ht
              rw [← ht]; exact ⟨h3.c0, h3.c1, h3.c2, h3.c3, h3.c4, h3.c5, h3.c6⟩
            · have h6 := h4 t q e1 e2 (HFF.out t q (by
                unfold revF at ht ⊢
                split at ht
                · rw [if_pos (by omega)]; exact ht
                · rw [if_neg (by omega)]; exact ht) htl)
              exact ⟨h6.c0, h6.c1, h6.c2, h6.c3, h6.c4, h6.c5, h6.c6⟩
        case measure => simp [intOf]; omega
    · have hltz : ¬ (i : Int) < z := by omega
      have HFF := Lib.hid hF
      have HU := Lib.hid hu
      clear hF hu hcur hz
      go_wp2_with fail
      refine ⟨rfl, .tuple #[], by simp [results, Tryz.results22, go_sem], ?_⟩
      refine ⟨rfl, fun t q ht => ⟨⟨g, 0, none⟩, kyCs q, rfl, rfl, ?_⟩, HU.out⟩
      have htl : t < ks.length := by have := (List.getElem?_eq_some_iff.1 ht).1; simpa using this
      rw [List.getElem?_reverse (by simpa using htl)] at ht
      have K := HFF.out t q (by
        unfold revF
        by_cases h : t < i ∨ ks.length - i ≤ t
        · rw [if_pos h]; exact ht
        · rw [if_neg h, show t = ks.length - 1 - t by omega]; exact ht) htl
      intro j v hv
      rw [add_plain, Nat.zero_add, show kyRd.sz = 7 from rfl]
      match j, hv with
      | 0, hv => simp [kyCs] at hv; rw [← hv]; exact K.c0
      | 1, hv => simp [kyCs] at hv; rw [← hv]; exact K.c1
      | 2, hv => simp [kyCs] at hv; rw [← hv]; exact K.c2
      | 3, hv => simp [kyCs] at hv; rw [← hv]; exact K.c3
      | 4, hv => simp [kyCs] at hv; rw [← hv]; exact K.c4
      | 5, hv => simp [kyCs] at hv; rw [← hv]; exact K.c5
      | 6, hv => simp [kyCs] at hv; rw [← hv]; exact K.c6
      | j + 7, hv => simp [kyCs] at hv
end Go.Proofs.YtbidpeggdhkahaaGreat

set_option linter.unusedSimpArgs false
set_option linter.unusedVariables false
namespace Go.Proofs.YtbidpeggdhkahaaGreat
open Go.RowKit

def brnCs (b : Brn) : List Value := [.int .i64 b.name, .int .i64 b.rule, .int .i64 b.i, .int .i64 b.j, .int .i64 b.kids]
def brnRd : Rd Brn where
  sz := 5
  K _ x cs := cs = brnCs x
  len h := by subst h; rfl
  one h u hu := by subst h; simp only [brnCs, List.mem_cons, List.mem_nil_iff, or_false] at hu; rcases hu with rfl | rfl | rfl | rfl | rfl <;> rfl
  mono _ h := h
theorem flat_brn : Flat brnRd := fun _ _ _ _ h => h
theorem infoBrn : (Tryz.prog.info? 44).map (fun i => (i.zero, i.size, i.bytes)) = some (some (.agg #[.int .i64 0, .int .i64 0, .int .i64 0, .int .i64 0, .int .i64 0]), 5, 40) := by kernel_rfl
/-- A slice of the call's own less its last element. -/
theorem own_take {α : Type} {d : Rd α} {e : TypeId} {base : Nat} {w : World} {g n c : Nat} {xs : List α} {x : α} (hn : xs.length = n) (h : Own d e base w (.slice (some ⟨g, 0, none⟩) (n + 1) c) (xs ++ [x])) : Own d e base w (.slice (some ⟨g, 0, none⟩) n c) xs := by
  obtain ⟨css, q1, q2, q3⟩ := h
  have hcl : css.length = n + 1 := by rw [q1, List.length_append, hn]; rfl
  have hsz : ∀ cs ∈ css, cs.length = d.sz := by
    intro cs hcs
    obtain ⟨i, hi, hic⟩ := List.mem_iff_getElem.1 hcs
    have hx : (xs ++ [x])[i]? = some ((xs ++ [x])[i]'(by omega)) := List.getElem?_eq_getElem (by omega)
    exact d.len (q3 i _ cs hx (by rw [← hic]; exact List.getElem?_eq_getElem hi) w (Upd.refl _ _))
  refine ⟨css.take n, by simp; omega, ?_, fun i y cs hy hc w' hu => ?_⟩
  · obtain ⟨r1, r2⟩ := q2
    rcases r2 with ⟨hv, -⟩ | ⟨g', cap, cur, hv, hb, hh, h4, h5, h6, h7⟩
    · injection hv with hv; cases hv
    · injection hv with e1 e2 e3
      injection e1 with e1
      injection e1 with e1
      subst e1
      subst e3
      have hl2 : (xs ++ [x]).length = n + 1 := by rw [List.length_append, hn]; rfl
      rw [hl2] at h4 h7
      have hfl : ((css.take n).flatten).length = n * d.sz := by
        rw [flatten_length (fun cs hcs => hsz cs (List.mem_of_mem_take hcs)), List.length_take, hcl]
        congr 1
        omega
      refine ⟨by rw [hfl, hn], .inr ⟨g, c, cur, by rw [hn], hb, hh, by omega, h5, h6, ?_⟩⟩
      have h8 : cur.toList.take (n * d.sz) = (css.flatten).take (n * d.sz) := by
        rw [← h7, List.take_take, Nat.min_eq_left (Nat.mul_le_mul_right _ (by omega))]
      rw [hn, h8]
      have h9 : css.flatten = (css.take n).flatten ++ (css.drop n).flatten := by rw [← List.flatten_append, List.take_append_drop]
      rw [h9, List.take_append_of_le_length (by omega), List.take_of_length_le (by omega)]
  · have hi : i < n := by rw [← hn]; exact (List.getElem?_eq_some_iff.1 hy).1
    refine q3 i y cs (by rw [List.getElem?_append_left (by omega)]; exact hy) ?_ w' (hu.mono (fun b hb => hb.imp id (fun h => by simpa [Value.ownBlock] using h)))
    rw [List.getElem?_take, if_pos hi] at hc
    exact hc

/-- A slice of one element, in a block of its own. -/
theorem own_new {α : Type} {d : Rd α} {e : TypeId} {base b : Nat} {w : World} {cs : Array Value} {x : α} (h : w.heap[b]? = some (.cells cs e (0, 0))) (hb : base ≤ b) (hs : cs.size = d.sz) (hk : ∀ w', Upd (fun q => q < base ∨ (Value.slice (some ⟨b, 0, none⟩) 1 1).ownBlock = some q) w w' → d.K w' x cs.toList) :
    Own d e base w (.slice (some ⟨b, 0, none⟩) 1 1) [x] := by
  refine ⟨[cs.toList], rfl, ⟨by simp [hs], .inr ⟨b, 1, cs, rfl, hb, h, Nat.le_refl _, by decide, by rw [hs, Nat.one_mul], ?_⟩⟩, fun i y c hy hc w' hu => ?_⟩
  · simp only [List.length_cons, List.length_nil, Nat.zero_add, Nat.one_mul, List.flatten_cons, List.flatten_nil, List.append_nil]
    exact List.take_of_length_le (by rw [Array.length_toList, hs]; exact Nat.le_refl _)
  · match i, hy, hc with
    | 0, hy, hc => simp at hy hc; subst hy; subst hc; exact hk w' hu
    | i + 1, hy, _ => simp at hy

set_option maxRecDepth 100000 in
set_option maxHeartbeats 4000000 in
theorem kReverse0 {w : World} {A : Option Addr} {c : Nat} : Calls Tryz.prog 22 #[.slice A 0 c] w fun e w' => e = .returned (.tuple #[]) ∧ Below w.heap.size w w' := by
  go_enter Tryz.func22, Tryz.ntmps22
  go_wp2_with fail
  go_loopw [2, 3] (fun s2 s3 wr => s2 = .int .i64 0 ∧ s3 = .int .i64 (-1) ∧ Below w.heap.size w wr) (fun _ _ _ => 0)
  case atStart => exact ⟨rfl, rfl, below_refl _⟩
  case round =>
    obtain ⟨rfl, rfl, hb⟩ := hrel
    have HB := Lib.hid hb
    clear hb
    go_wp2_with fail
    refine ⟨rfl, .tuple #[], by simp [results, Tryz.results22, go_sem], ?_⟩
    exact ⟨rfl, HB.out⟩
/-- slices.Reverse at keys of the call's own. -/
theorem kReverseAll {w : World} {ks : List Ky} {A : Option Addr} {c base : Nat} (ho : Own kyRd 59 base w (.slice A ks.length c) ks) (hn : ks.length ≤ 10000) :
    Calls Tryz.prog 22 #[.slice A ks.length c] w fun e w' => e = .returned (.tuple #[]) ∧ kyRd.C w' A ks.reverse ∧ Upd (fun b => (Value.slice A ks.length c).ownBlock = some b) w w' := by
  by_cases hz : ks = []
  · subst hz
    exact (kReverse0 (A := A) (c := c)).mono fun e w' ⟨h1, h2⟩ => ⟨h1, Rd.C.nil _ _ _, Upd.of_below h2⟩
  · have hl : 0 < ks.length := List.length_pos_iff.2 hz
    obtain ⟨g, cap, hv, -, -, -, h5⟩ := ho.form hl
    injection hv with h1 _ h3
    subst h1
    subst h3
    exact (kReverse ho h5 hn).mono fun e w' ⟨h1, h2, h3⟩ => ⟨h1, h2, h3.mono (fun b hb => by rw [hb]; rfl)⟩
end Go.Proofs.YtbidpeggdhkahaaGreat

set_option linter.unusedSimpArgs false
set_option linter.unusedVariables false
namespace Go.Proofs.YtbidpeggdhkahaaGreat
open Go.RowKit

abbrev rootK (G : Gram) (W : ByteArray) : Ky := nameKey G.start 0 W.size
/-- What First answers, by the ranks R. -/
def FirstIs (R : Ky → Int) (G : Gram) (W : ByteArray) (e : Ending) (w' : World) : Prop :=
  (R (rootK G W) = 0 ∧ e = .returned (.tuple #[.slice none 0 0, .int .i64 2201])) ∨
  (0 < R (rootK G W) ∧ firstGo R G W 4098 [] [rootK G W] = none ∧ e = .returned (.tuple #[.slice none 0 0, .int .i64 2202])) ∨
  (0 < R (rootK G W) ∧ ∃ bs A c, firstGo R G W 4098 [] [rootK G W] = some bs ∧ e = .returned (.tuple #[.slice A bs.length c, .int .i64 0]) ∧ bs.length ≤ c ∧ c ≤ 9223372036854775807 ∧ brnRd.C w' A bs)
/-- What First leaves. -/
def FirstPost (w : World) (G : Gram) (W : ByteArray) (e : Ending) (w' : World) : Prop :=
  Below w.heap.size w w' ∧ (((RefG G ∨ 32 < W.size) ∧ e = .returned (.tuple #[.slice none 0 0, .int .i64 2200])) ∨
    (¬ RefG G ∧ W.size ≤ 32 ∧ ∃ (N : Rk) (P : Nat → Nat → Nat → Int → Int → Int), View G.rules G.names.length (fun i => btz W i) W.size N P ∧ FirstIs (rankV G W N P) G W e w'))
/-- The loop of 'First'. -/
def FiR (wL : World) (R : Ky → Int) (G : Gram) (W : ByteArray) (total : Option (List Brn)) (gg : Nat) (s9 s10 : Value) (wr : World) : Prop :=
  ∃ (os : List Brn) (st : List Ky), Own brnRd 44 wL.heap.size wr s9 os ∧ Own kyRd 59 wL.heap.size wr s10 st.reverse ∧ (∀ k ∈ st, k.kind = 0 ∧ 0 < R k) ∧ os.length + st.length ≤ 4096 ∧ firstGo R G W (4098 - os.length) os st = total ∧ 4098 - os.length ≤ gg ∧ Below wL.heap.size wL wr

set_option maxRecDepth 100000 in
set_option maxHeartbeats 8000000 in
/-- tree.First. -/
theorem first_any {w : World} (G : Gram) (W : ByteArray) {A A' : Option Addr} {c c' : Nat} (n1 : G.names.length ≤ c) (n2 : c ≤ 9223372036854775807) (n3 : Rd.str.C w A G.names) (n4 : G.rules.length ≤ c') (n5 : c' ≤ 9223372036854775807) (n6 : rulRd.C w A' G.rules) :
    Calls Tryz.prog 7 #[.agg #[.int .i64 G.start, .slice A G.names.length c, .slice A' G.rules.length c'], .string W] w (FirstPost w G W) := by
  have hb0 : Below w.heap.size w (w.alloc (grO G A A' c c')) := below_alloc' (below_refl w) _
  have B0 := heap_alloc_new w (grO G A A' c c')
  have N3 := Lib.hid (n3.mono hb0)
  have N6 := Lib.hid (n6.mono hb0)
  obtain ⟨gb, hgb⟩ : ∃ b, b = w.heap.size := ⟨_, rfl⟩
  clear n3 n6
  go_enter Tryz.func7, Tryz.ntmps7
  go_upto_region 1 with fail
  change Code.wp _ _ _ _ (w.alloc (grO G A A' c c'))
  rw [← hgb] at B0 ⊢
  generalize w.alloc (grO G A A' c c') = w0 at hb0 B0 N3 N6 ⊢
  have HB0 := Lib.hid hb0
  have CN := Lib.hid (wNew (gb := gb) G W false B0 n1 n2 N3.out n4 n5 N6.out)
  clear hb0 B0 hgb
  go_wp2_with fail
  refine CN.out.mono ?_
  rintro e w1 ⟨hb1, ⟨hr, p, rfl⟩ | ⟨hnr, hW, m, hmg, hmf, hmG, hmW, hM, F, rfl⟩⟩
  · have HB1 := Lib.hid hb1
    have HR := Lib.hid hr
    clear hb1 hr CN
    go_wp2_with fail
    refine bodyPost_ret (v := .tuple #[.slice none 0 0, .int .i64 2200]) (by simp [results, Tryz.results7, go_sem]) rfl ?_
    exact ⟨below_then HB0.out HB1.out, .inl ⟨HR.out, rfl⟩⟩
  · have HB1 := Lib.hid (below_then HB0.out hb1)
    have HNR := Lib.hid hnr
    have HWW := Lib.hid hW
    have HM := Lib.hid hM
    have HMF := Lib.hid hmf
    subst hmg
    subst hmG
    subst hmW
    have HV := Lib.hid F.view
    obtain ⟨root, hroot⟩ : ∃ q, q = rootK m.t.G m.t.W := ⟨_, rfl⟩
    have CR := Lib.hid (mkRoot hM)
    have HRK := Lib.hid (show ∀ W', Below w1.heap.size w1 W' → Calls Tryz.prog 19 #[.pointer (some ⟨m.p, 0, none⟩), kyV (nameKey m.t.G.start 0 m.t.W.size)] W' fun e w' => e = .returned (.int .i64 (m.R root)) ∧ Below W'.heap.size W' w' from fun W' hW' => by rw [hroot]; exact mkRank (hM.mono hW') F _)
    clear hb1 hnr hW hM hmf CN
    by_cases hz : m.R root = 0
    · have dz : (m.R root == 0) = true := by simpa using hz
      have HZ := Lib.hid hz
      have HRT := Lib.hid hroot
      clear hz hroot
      go_wp2_with (first
        | (go_at_call 20; refine CR.out.mono ?_; rintro e w2 ⟨rfl, hb2⟩; have HB2 := Lib.hid hb2; clear hb2)
        | (go_at_call 19; refine (HRK.out _ HB2.out).mono ?_; rintro e w3 ⟨rfl, hb3⟩; have HB3 := Lib.hid (below_then HB2.out hb3); clear hb3)
        | fail)
      refine bodyPost_ret (v := .tuple #[.slice none 0 0, .int .i64 2201]) (by simp [results, Tryz.results7, go_sem]) rfl ?_
      refine ⟨below_then HB1.out HB3.out, .inr ⟨HNR.out, HWW.out, _, _, HV.out, .inl ⟨?_, rfl⟩⟩⟩
      rw [← HRT.out]; exact HZ.out
    · have dz : (m.R root == 0) = false := by simpa using hz
      have hpos : 0 < m.R root := by have := F.ok.lo root; omega
      have HRT := Lib.hid hroot
      obtain ⟨total, htot⟩ : ∃ t, t = firstGo m.R m.t.G m.t.W 4098 [] [root] := ⟨_, rfl⟩
      have HTT := Lib.hid htot
      have hrk : root.kind = 0 := by rw [hroot]; rfl
      clear hz hroot htot
      go_upto_region 7 with (first
        | (go_at_call 20; refine CR.out.mono ?_; rintro e w2 ⟨rfl, hb2⟩; have HB2 := Lib.hid hb2; clear hb2)
        | (go_at_call 19; refine (HRK.out _ HB2.out).mono ?_; rintro e w3 ⟨rfl, hb3⟩; have HB3 := Lib.hid (below_then HB2.out hb3); clear hb3)
        | fail)
      obtain ⟨xb, hxb⟩ : ∃ b, b = w3.heap.size := ⟨_, rfl⟩
      have x9 := heap_alloc_new w3 (.cells #[.pointer (some ⟨m.g, 0, none⟩), .pointer (some ⟨m.p, 0, none⟩)] 63)
      have h9 : Below w3.heap.size w3 (w3.alloc (.cells #[.pointer (some ⟨m.g, 0, none⟩), .pointer (some ⟨m.p, 0, none⟩)] 63)) := below_alloc' (below_refl _) _
      rw [← hxb] at x9 ⊢
      generalize w3.alloc (.cells #[.pointer (some ⟨m.g, 0, none⟩), .pointer (some ⟨m.p, 0, none⟩)] 63) = w4 at x9 h9 ⊢
      have HG4 := Lib.hid (show GrAt w4 xb m from ⟨blk_cell x9 0, blk_cell x9 1⟩)
      have HB4 := Lib.hid (below_then HB1.out (below_then HB3.out h9))
      have HM4 := Lib.hid (HM.out.mono (below_then HB3.out h9))
      clear x9 h9 hxb HRK CR
      have CR4 := Lib.hid (mkRoot HM4.out)
      go_upto_region 9 with (first
        | (go_at_call 20; refine CR4.out.mono ?_; rintro e w5 ⟨he, hb5⟩; change e = .returned (.agg #[.int .i64 0, .int .i64 m.t.G.start, .int .i64 0, .int .i64 0, .int .i64 0, .int .i64 0, .int .i64 m.t.W.size]) at he; subst he; have HB5 := Lib.hid hb5; clear hb5)
        | fail)
      have HB5' := Lib.hid (below_then HB4.out HB5.out)
      have o0 := heap_alloc_new w5 (.cells #[.int .i64 0, .int .i64 m.t.G.start, .int .i64 0, .int .i64 0, .int .i64 0, .int .i64 0, .int .i64 m.t.W.size] 59)
      have h0 : Below w5.heap.size w5 (w5.alloc (.cells #[.int .i64 0, .int .i64 m.t.G.start, .int .i64 0, .int .i64 0, .int .i64 0, .int .i64 0, .int .i64 m.t.W.size] 59)) := below_alloc' (below_refl _) _
      have O0 := Lib.hid (own_new (d := kyRd) (base := w5.heap.size) (x := root) o0 (Nat.le_refl _) rfl (fun _ _ => by rw [HRT.out]; rfl))
      have H05 := Lib.hid h0
      have HM5 := Lib.hid (HM4.out.mono HB5.out)
      have HG5 := Lib.hid (HG4.out.mono HB5.out)
      clear o0 h0 CR4
      go_loopg [9, 10] 4098 (fun gg s9 s10 wr => FiR w5 m.R m.t.G m.t.W total gg s9 s10 wr)
      case atStart => exact ⟨[], [root], Own.nil _ _ _ _, O0.out, fun q hq => by simp at hq; rw [hq]; exact ⟨hrk, hpos⟩, by simp, HTT.out.symm, Nat.le_refl _, H05.out⟩
      case round =>
        clear O0 H05
        obtain ⟨os, st, ho, ht, hst, hlen, hgo, hgg, hb⟩ := hrel
        have HB := Lib.hid hb
        obtain ⟨n', hn'⟩ : ∃ n', 4098 - os.length = n' + 1 := ⟨4098 - os.length - 1, by omega⟩
        cases st with
        | nil =>
          obtain ⟨A9, c9, rfl, l9, l9', hC9⟩ := ho.shape
          obtain ⟨A8, c8, e8, -, -, -⟩ := ht.shape
          simp only [List.reverse_nil, List.length_nil] at e8
          subst e8
          have HTO := Lib.hid (show total = some os by rw [← hgo, hn']; rfl)
          have HC9 := Lib.hid hC9
          clear ho ht hst hgo hb hn' hC9
          go_wp2_with fail
          refine bodyPost_ret (v := .tuple #[.slice A9 os.length c9, .int .i64 0]) (by simp [results, Tryz.results7, go_sem]) rfl ?_
          refine ⟨below_then HB5'.out HB.out, .inr ⟨HNR.out, HWW.out, _, _, HV.out, .inr (.inr ⟨?_, os, A9, c9, ?_, rfl, l9, l9', HC9.out⟩)⟩⟩
          · rw [← HRT.out]; exact hpos
          · rw [← HRT.out]; exact HTT.out.symm.trans HTO.out
        | cons k st =>
          obtain ⟨hk0, hkp⟩ := hst k (by simp)
          rw [List.reverse_cons] at ht
          have hLn : (st.reverse ++ [k]).length = st.length + 1 := by simp
          obtain ⟨g, cap, ev, hgb, -, hcap, hcap'⟩ := ht.form (by rw [hLn]; omega)
          rw [hLn] at ev hcap
          subst ev
          obtain ⟨A9, c9, rfl, l9, l9', -⟩ := id ho.shape
          obtain ⟨A', c', e', -, -, hCt⟩ := ht.shape
          injection e' with e1 e3 e4
          clear e3 e4
          subst e1
          obtain ⟨adk, e2, K⟩ := ky_at hCt (i := st.length) (x := k) (by rw [List.getElem?_append_right (by simp)]; simp)
          injection e2 with e2
          subst e2
          rw [add_plain, Nat.zero_add] at K
          have kf0 : wr.cell? ⟨g, st.length * 7, none⟩ = some (.int .i64 k.kind) := K.c0
          have kf1 : wr.cell? ⟨g, st.length * 7 + 1, none⟩ = some (.int .i64 k.name) := K.c1
          have kf2 : wr.cell? ⟨g, st.length * 7 + 2, none⟩ = some (.int .i64 k.plc.rule) := K.c2
          have kf3 : wr.cell? ⟨g, st.length * 7 + 3, none⟩ = some (.int .i64 k.plc.conj) := K.c3
          have kf4 : wr.cell? ⟨g, st.length * 7 + 4, none⟩ = some (.int .i64 k.plc.pos) := K.c4
          have kf5 : wr.cell? ⟨g, st.length * 7 + 5, none⟩ = some (.int .i64 k.i) := K.c5
          have kf6 : wr.cell? ⟨g, st.length * 7 + 6, none⟩ = some (.int .i64 k.j) := K.c6
          obtain ⟨rr, xr, hxr, -, -, -, -, hben, hbk⟩ := beneath_ok F.ok hkp hk0
          have hkl : (beneathB m.R m.t.G m.t.W k).2.length ≤ 528 := by
            rw [hben]
            have h1 := parts_len (R := m.R) (G := m.t.G) (W := m.t.W) (xr := xr) (ks := conjKeys k rr xr) xr.conj.length
            have h2 : xr.conj.length ≤ 8 := (F.may.conj rr xr hxr).2
            show (partsTo m.R m.t.G m.t.W xr (conjKeys k rr xr) xr.conj.length).length ≤ 528
            omega
          have HST := Lib.hid (show ∀ q ∈ (beneathB m.R m.t.G m.t.W k).2 ++ st, q.kind = 0 ∧ 0 < m.R q from fun q hq => by
            rcases List.mem_append.1 hq with hq | hq
            · exact ⟨(hbk q hq).1, (hbk q hq).2.1⟩
            · exact hst q (by simp [hq]))
          have HGO := Lib.hid (show (if 4096 < (os ++ [brnOf m.R m.t.G m.t.W k]).length + ((beneathB m.R m.t.G m.t.W k).2 ++ st).length then none else firstGo m.R m.t.G m.t.W (4098 - (os.length + 1)) (os ++ [brnOf m.R m.t.G m.t.W k]) ((beneathB m.R m.t.G m.t.W k).2 ++ st)) = total by
            rw [← hgo, hn', show 4098 - (os.length + 1) = n' by omega]; rfl)
          have HBR := Lib.hid (show brnOf m.R m.t.G m.t.W k = ⟨k.name, (beneathB m.R m.t.G m.t.W k).1, k.i, k.j, (beneathB m.R m.t.G m.t.W k).2.length⟩ from rfl)
          obtain ⟨bb, hbb⟩ : ∃ b, b = beneathB m.R m.t.G m.t.W k := ⟨_, rfl⟩
          rw [← hbb] at hkl HST HGO HBR
          have HO := Lib.hid ho
          have HTK := Lib.hid (own_take (by simp) ht)
          have CB := Lib.hid (show ∀ W', Below wr.heap.size wr W' → Calls Tryz.prog 21 #[.pointer (some ⟨xb, 0, none⟩), .agg #[.int .i64 k.kind, .int .i64 k.name, .int .i64 k.plc.rule, .int .i64 k.plc.conj, .int .i64 k.plc.pos, .int .i64 k.i, .int .i64 k.j]] W' (BenPost W' bb) from fun W' hW' => by rw [hbb]; exact gBeneath (HM5.out.mono (below_then HB.out hW')) (HG5.out.mono (below_then HB.out hW')) F HMF.out k hkp hk0)
          have hsl : st.length ≤ 4096 := by simp only [List.length_cons] at hlen; omega
          have hol : os.length ≤ 4096 := by omega
          have eL : IntKind.i64.wrap ((st.length : Int) + 1 - 1) = (st.length : Int) := by rw [show (st.length : Int) + 1 - 1 = st.length by omega]; exact IntWalk.i64_in _ (by omega)
          have eL2 : IntKind.i64.wrap (st.length : Int) = (st.length : Int) := IntWalk.i64_in _ (by omega)
          clear ho ht hst hgo hb hn' hCt K hbk hben hbb hkp hk0 hxr hLn
          go_upto_region 12 with fail
          --RG
          obtain ⟨bk, hbk⟩ : ∃ b, b = wr.heap.size := ⟨_, rfl⟩
          have x9 := heap_alloc_new wr (.cells #[.int .i64 k.kind, .int .i64 k.name, .int .i64 k.plc.rule, .int .i64 k.plc.conj, .int .i64 k.plc.pos, .int .i64 k.i, .int .i64 k.j] 59)
          have h9 : Below wr.heap.size wr (wr.alloc (.cells #[.int .i64 k.kind, .int .i64 k.name, .int .i64 k.plc.rule, .int .i64 k.plc.conj, .int .i64 k.plc.pos, .int .i64 k.i, .int .i64 k.j] 59)) := below_alloc' (below_refl _) _
          rw [← hbk] at x9 ⊢
          generalize wr.alloc (.cells #[.int .i64 k.kind, .int .i64 k.name, .int .i64 k.plc.rule, .int .i64 k.plc.conj, .int .i64 k.plc.pos, .int .i64 k.i, .int .i64 k.j] 59) = wk at x9 h9 ⊢
          have XK := Lib.hid x9
          have HK9 := Lib.hid h9
          have z0 : wk.cell? ⟨bk, 0, none⟩ = some (.int .i64 k.kind) := by simpa using blk_cell x9 0
          have z1 : wk.cell? ⟨bk, 1, none⟩ = some (.int .i64 k.name) := by simpa using blk_cell x9 1
          have z2 : wk.cell? ⟨bk, 2, none⟩ = some (.int .i64 k.plc.rule) := by simpa using blk_cell x9 2
          have z3 : wk.cell? ⟨bk, 3, none⟩ = some (.int .i64 k.plc.conj) := by simpa using blk_cell x9 3
          have z4 : wk.cell? ⟨bk, 4, none⟩ = some (.int .i64 k.plc.pos) := by simpa using blk_cell x9 4
          have z5 : wk.cell? ⟨bk, 5, none⟩ = some (.int .i64 k.i) := by simpa using blk_cell x9 5
          have z6 : wk.cell? ⟨bk, 6, none⟩ = some (.int .i64 k.j) := by simpa using blk_cell x9 6
          have CB := Lib.hid (CB.out wk h9)
          clear hbk x9 h9 kf0 kf1 kf2 kf3 kf4 kf5 kf6
          have esum : IntKind.i64.wrap ((os.length : Int) + 1 + ((st.length : Int) + (bb.2.length : Int))) = (os.length : Int) + 1 + ((st.length : Int) + (bb.2.length : Int)) := IntWalk.i64_in _ (by omega)
          by_cases hmany : 4096 < os.length + 1 + (st.length + bb.2.length)
          · have dm : decide ((4096 : Int) < (os.length : Int) + 1 + ((st.length : Int) + (bb.2.length : Int))) = true := decide_eq_true (by omega)
            have HTO := Lib.hid (show total = none by rw [← HGO.out, if_pos (by simp only [List.length_append, List.length_cons, List.length_nil]; omega)])
            clear hmany
            go_wp2_with (first
              | (go_at_call 21; (with_reducible refine CB.out.mono ?_); rintro e w6 ⟨Ak, ck, rfl, hKO, hb6⟩; have z1 : w6.cell? ⟨bk, 1, none⟩ = some (.int .i64 k.name) := (by simpa using blk_cell (blk_below XK.out hb6) 1); have z5 : w6.cell? ⟨bk, 5, none⟩ = some (.int .i64 k.i) := (by simpa using blk_cell (blk_below XK.out hb6) 5); have z6 : w6.cell? ⟨bk, 6, none⟩ = some (.int .i64 k.j) := (by simpa using blk_cell (blk_below XK.out hb6) 6); have HKO := Lib.hid hKO; have HB6 := Lib.hid hb6; have HX6 := Lib.hid (below_then HK9.out hb6); clear hKO hb6)
              | (at_builtin; refine wpList_append_one (d := brnRd) rfl (base := w5.heap.size) _ _ 27 44 _ 40 (by rfl) Tryz.underlying27 infoBrn (by rfl) (by show 0 < 5; decide) (v := .slice A9 os.length c9) (xs := os) (by rfl) ((HO.out.below HX6.out).below (below_alloc' (below_refl _) _)) ⟨k.name, bb.1, k.i, k.j, (bb.2.length : Int)⟩ #[.int .i64 k.name, .int .i64 bb.1, .int .i64 k.i, .int .i64 k.j, .int .i64 bb.2.length] (fun _ _ => rfl) (b := w6.heap.size) (c := 1) (by rfl) (by exact heap_alloc_new w6 (.cells #[.int .i64 k.name, .int .i64 bb.1, .int .i64 k.i, .int .i64 k.j, .int .i64 bb.2.length] 44)) (by omega) (by decide) (by have := HX6.out.size; have := HB.out.size; rw [World.size_alloc]; omega) ?_; intro v7 w7 o7 g7 t7; have hba : Below w6.heap.size w6 (w6.alloc (.cells #[.int .i64 k.name, .int .i64 bb.1, .int .i64 k.i, .int .i64 k.j, .int .i64 bb.2.length] 44)) := below_alloc' (below_refl _) _; have HK7 := Lib.hid (HKO.out.upd ((Upd.of_below hba).trans (Upd.of_grown g7)) (fun b hb => Nat.lt_of_lt_of_le (HO.out.base hb).2 HK9.out.size)); have HT7 := Lib.hid (((HTK.out.below HX6.out).below hba).flat_upd flat_ky (Upd.of_grown g7) (fun b hb e => own_type_ne ((HO.out.below HX6.out).below hba) ((HTK.out.below HX6.out).below hba) (by decide) e hb)); have HB7 := Lib.hid ((below_then (below_then HB.out HX6.out) hba).grown g7 (below_then (below_then HB.out HX6.out) hba).size (fun b hb => (HO.out.base hb).1)); have HT := Lib.hid (show ∀ b, v7.ownBlock = some b → b < wr.heap.size ∨ b = w6.heap.size + 1 from fun b hb => t7.elim (fun h => .inl (HO.out.base (h ▸ hb)).2) (fun h => .inr (by rw [h] at hb; injection hb with hb; rw [World.size_alloc] at hb; omega))); have O7 := Lib.hid o7; obtain ⟨A7, c7, ev, l7, l7', -⟩ := id o7.shape; rw [show (os ++ [(⟨k.name, bb.1, k.i, k.j, (bb.2.length : Int)⟩ : Brn)]).length = os.length + 1 from List.length_append] at ev l7; subst ev; clear o7 g7 t7 hba z1 z5 z6)
              | (go_at_call 22; (with_reducible refine (kReverseAll HK7.out (by omega)).mono ?_); rintro e w8 ⟨rfl, hC8, hu8⟩; have HC8 := Lib.hid hC8; have HO8 := Lib.hid (O7.out.flat_upd flat_brn hu8 (fun b hb e => by have h1 := HKO.out.base e; have h2 := HK9.out.size; rcases HT.out b hb with h | h <;> omega)); have HT8 := Lib.hid (HT7.out.flat_upd flat_ky hu8 (fun b hb e => by have h1 := HKO.out.base e; have h2 := HK9.out.size; have h3 := (HTK.out.base hb).2; omega)); have HB8 := Lib.hid (HB7.out.trans (hu8.below HB7.out.size (fun b hb => Nat.le_trans (below_then HB.out HK9.out).size (HKO.out.base hb).1))); clear hC8 hu8)
              | (at_builtin; refine wpList_append_flat (d := kyRd) rfl (base := w5.heap.size) _ _ 64 59 _ 56 (by rfl) Tryz.underlying64 infoKy (by rfl) (by show 0 < 7; decide) (v := .slice (some ⟨g, 0, none⟩) st.length cap) (xs := st.reverse) (ys := bb.2.reverse) (by rfl) HT8.out flat_ky (A := Ak) (c := ck) (by rw [List.length_reverse]; rfl) HC8.out (by simp only [List.length_reverse]; omega) (by decide) HB8.out.size ?_; intro v9 w9 o9 g9 t9; have HO9 := Lib.hid (HO8.out.flat_upd flat_brn (Upd.of_grown g9) (fun b hb e => own_type_ne HT8.out HO8.out (by decide) e hb)); have HB9 := Lib.hid (HB8.out.grown g9 HB8.out.size (fun b hb => (HTK.out.base hb).1)); have HT9 := Lib.hid (show Own kyRd 59 w5.heap.size w9 v9 (bb.2 ++ st).reverse by rw [List.reverse_append]; exact o9); obtain ⟨A0, c0, ev, -, -, -⟩ := id o9.shape; rw [show (st.reverse ++ bb.2.reverse).length = st.length + bb.2.length by simp] at ev; subst ev; clear o9 g9 t9)
              | fail)
            refine bodyPost_ret (v := .tuple #[.slice none 0 0, .int .i64 2202]) (by simp [results, Tryz.results7, go_sem]) rfl ?_
            refine ⟨below_then HB5'.out HB9.out, .inr ⟨HNR.out, HWW.out, _, _, HV.out, .inr (.inl ⟨?_, ?_, rfl⟩)⟩⟩
            · rw [← HRT.out]; exact hpos
            · rw [← HRT.out]; exact HTT.out.symm.trans HTO.out
          · have dm : decide ((4096 : Int) < (os.length : Int) + 1 + ((st.length : Int) + (bb.2.length : Int))) = false := decide_eq_false (by omega)
            have HTO := Lib.hid (show firstGo m.R m.t.G m.t.W (4098 - (os.length + 1)) (os ++ [⟨k.name, bb.1, k.i, k.j, (bb.2.length : Int)⟩]) (bb.2 ++ st) = total by rw [← HGO.out, if_neg (by simp only [List.length_append, List.length_cons, List.length_nil]; omega), HBR.out])
            have HMN := Lib.hid hmany
            clear hmany
            go_wp2_with (first
              | (go_at_call 21; (with_reducible refine CB.out.mono ?_); rintro e w6 ⟨Ak, ck, rfl, hKO, hb6⟩; have z1 : w6.cell? ⟨bk, 1, none⟩ = some (.int .i64 k.name) := (by simpa using blk_cell (blk_below XK.out hb6) 1); have z5 : w6.cell? ⟨bk, 5, none⟩ = some (.int .i64 k.i) := (by simpa using blk_cell (blk_below XK.out hb6) 5); have z6 : w6.cell? ⟨bk, 6, none⟩ = some (.int .i64 k.j) := (by simpa using blk_cell (blk_below XK.out hb6) 6); have HKO := Lib.hid hKO; have HB6 := Lib.hid hb6; have HX6 := Lib.hid (below_then HK9.out hb6); clear hKO hb6)
              | (at_builtin; refine wpList_append_one (d := brnRd) rfl (base := w5.heap.size) _ _ 27 44 _ 40 (by rfl) Tryz.underlying27 infoBrn (by rfl) (by show 0 < 5; decide) (v := .slice A9 os.length c9) (xs := os) (by rfl) ((HO.out.below HX6.out).below (below_alloc' (below_refl _) _)) ⟨k.name, bb.1, k.i, k.j, (bb.2.length : Int)⟩ #[.int .i64 k.name, .int .i64 bb.1, .int .i64 k.i, .int .i64 k.j, .int .i64 bb.2.length] (fun _ _ => rfl) (b := w6.heap.size) (c := 1) (by rfl) (by exact heap_alloc_new w6 (.cells #[.int .i64 k.name, .int .i64 bb.1, .int .i64 k.i, .int .i64 k.j, .int .i64 bb.2.length] 44)) (by omega) (by decide) (by have := HX6.out.size; have := HB.out.size; rw [World.size_alloc]; omega) ?_; intro v7 w7 o7 g7 t7; have hba : Below w6.heap.size w6 (w6.alloc (.cells #[.int .i64 k.name, .int .i64 bb.1, .int .i64 k.i, .int .i64 k.j, .int .i64 bb.2.length] 44)) := below_alloc' (below_refl _) _; have HK7 := Lib.hid (HKO.out.upd ((Upd.of_below hba).trans (Upd.of_grown g7)) (fun b hb => Nat.lt_of_lt_of_le (HO.out.base hb).2 HK9.out.size)); have HT7 := Lib.hid (((HTK.out.below HX6.out).below hba).flat_upd flat_ky (Upd.of_grown g7) (fun b hb e => own_type_ne ((HO.out.below HX6.out).below hba) ((HTK.out.below HX6.out).below hba) (by decide) e hb)); have HB7 := Lib.hid ((below_then (below_then HB.out HX6.out) hba).grown g7 (below_then (below_then HB.out HX6.out) hba).size (fun b hb => (HO.out.base hb).1)); have HT := Lib.hid (show ∀ b, v7.ownBlock = some b → b < wr.heap.size ∨ b = w6.heap.size + 1 from fun b hb => t7.elim (fun h => .inl (HO.out.base (h ▸ hb)).2) (fun h => .inr (by rw [h] at hb; injection hb with hb; rw [World.size_alloc] at hb; omega))); have O7 := Lib.hid o7; obtain ⟨A7, c7, ev, l7, l7', -⟩ := id o7.shape; rw [show (os ++ [(⟨k.name, bb.1, k.i, k.j, (bb.2.length : Int)⟩ : Brn)]).length = os.length + 1 from List.length_append] at ev l7; subst ev; clear o7 g7 t7 hba z1 z5 z6)
              | (go_at_call 22; (with_reducible refine (kReverseAll HK7.out (by omega)).mono ?_); rintro e w8 ⟨rfl, hC8, hu8⟩; have HC8 := Lib.hid hC8; have HO8 := Lib.hid (O7.out.flat_upd flat_brn hu8 (fun b hb e => by have h1 := HKO.out.base e; have h2 := HK9.out.size; rcases HT.out b hb with h | h <;> omega)); have HT8 := Lib.hid (HT7.out.flat_upd flat_ky hu8 (fun b hb e => by have h1 := HKO.out.base e; have h2 := HK9.out.size; have h3 := (HTK.out.base hb).2; omega)); have HB8 := Lib.hid (HB7.out.trans (hu8.below HB7.out.size (fun b hb => Nat.le_trans (below_then HB.out HK9.out).size (HKO.out.base hb).1))); clear hC8 hu8)
              | (at_builtin; refine wpList_append_flat (d := kyRd) rfl (base := w5.heap.size) _ _ 64 59 _ 56 (by rfl) Tryz.underlying64 infoKy (by rfl) (by show 0 < 7; decide) (v := .slice (some ⟨g, 0, none⟩) st.length cap) (xs := st.reverse) (ys := bb.2.reverse) (by rfl) HT8.out flat_ky (A := Ak) (c := ck) (by rw [List.length_reverse]; rfl) HC8.out (by simp only [List.length_reverse]; omega) (by decide) HB8.out.size ?_; intro v9 w9 o9 g9 t9; have HO9 := Lib.hid (HO8.out.flat_upd flat_brn (Upd.of_grown g9) (fun b hb e => own_type_ne HT8.out HO8.out (by decide) e hb)); have HB9 := Lib.hid (HB8.out.grown g9 HB8.out.size (fun b hb => (HTK.out.base hb).1)); have HT9 := Lib.hid (show Own kyRd 59 w5.heap.size w9 v9 (bb.2 ++ st).reverse by rw [List.reverse_append]; exact o9); obtain ⟨A0, c0, ev, -, -, -⟩ := id o9.shape; rw [show (st.reverse ++ bb.2.reverse).length = st.length + bb.2.length by simp] at ev; subst ev; clear o9 g9 t9)
              | fail)
            go_roundg (4098 - (os.length + 1))
            case measure => have := HMN.out; omega
            case rel => exact ⟨_, bb.2 ++ st, HO9.out, HT9.out, HST.out, by have := HMN.out; simp only [List.length_append, List.length_cons, List.length_nil]; omega, by rw [show (os ++ [(⟨k.name, bb.1, k.i, k.j, (bb.2.length : Int)⟩ : Brn)]).length = os.length + 1 from List.length_append]; exact HTO.out, by rw [show (os ++ [(⟨k.name, bb.1, k.i, k.j, (bb.2.length : Int)⟩ : Brn)]).length = os.length + 1 from List.length_append]; exact Nat.le_refl _, HB9.out⟩
          --EG
end Go.Proofs.YtbidpeggdhkahaaGreat
