/-
  If: branches in memory; a slice less its last element; Reverse of nothing.
-/
import Derived.Test.YtbidpeggdhkahaaIe
set_option linter.unusedSimpArgs false
set_option linter.unusedVariables false
namespace Go.Proofs.Ytbidpeggdhkahaa
open Go.RowKit

def brnCs (b : Brn) : List Value := [.int .i64 b.name, .int .i64 b.rule, .int .i64 b.i, .int .i64 b.j, .int .i64 b.kids]
def brnRd : Rd Brn where
  sz := 5
  K _ x cs := cs = brnCs x
  len h := by subst h; rfl
  one h u hu := by subst h; simp only [brnCs, List.mem_cons, List.mem_nil_iff, or_false] at hu; rcases hu with rfl | rfl | rfl | rfl | rfl <;> rfl
  mono _ h := h
theorem flat_brn : Flat brnRd := fun _ _ _ _ h => h
theorem infoBrn : (Try.prog.info? 41).map (fun i => (i.zero, i.size, i.bytes)) = some (some (.agg #[.int .i64 0, .int .i64 0, .int .i64 0, .int .i64 0, .int .i64 0]), 5, 40) := by kernel_rfl
/-- A slice of the call's own less its last element. -/
theorem own_take {α : Type} {d : Rd α} {e : TypeId} {base : Nat} {w : World} {g n c : Nat} {xs : List α} {x : α} (hn : xs.length = n) (h : Own d e base w (.slice (some ⟨g, 0, none⟩) (n + 1) c) (xs ++ [x])) : Own d e base w (.slice (some ⟨g, 0, none⟩) n c) xs := by
  obtain ⟨css, q1, q2, q3⟩ := h
  have hcl : css.length = n + 1 := by rw [q1, List.length_append, hn]; rfl
  have hsz : ∀ cs ∈ css, cs.length = d.sz := by
    intro cs hcs
    obtain ⟨i, hi, hic⟩ := List.mem_iff_getElem.1 hcs
    have hx : (xs ++ [x])[i]? = some ((xs ++ [x])[i]'(by omega)) := List.getElem?_eq_getElem (by omega)
    exact d.len (q3 i _ cs hx (by rw [← hic]; exact List.getElem?_eq_getElem hi) w (Upd.refl _ _))
  refine ⟨css.take n, by simp; omega, ?_, fun i y cs hy hc w' hu => ?_⟩
  · obtain ⟨r1, r2⟩ := q2
    rcases r2 with ⟨hv, -⟩ | ⟨g', cap, cur, hv, hb, hh, h4, h5, h6, h7⟩
    · injection hv with hv; cases hv
    · injection hv with e1 e2 e3
      injection e1 with e1
      injection e1 with e1
      subst e1
      subst e3
      have hl2 : (xs ++ [x]).length = n + 1 := by rw [List.length_append, hn]; rfl
      rw [hl2] at h4 h7
      have hfl : ((css.take n).flatten).length = n * d.sz := by
        rw [flatten_length (fun cs hcs => hsz cs (List.mem_of_mem_take hcs)), List.length_take, hcl]
        congr 1
        omega
      refine ⟨by rw [hfl, hn], .inr ⟨g, c, cur, by rw [hn], hb, hh, by omega, h5, h6, ?_⟩⟩
      have h8 : cur.toList.take (n * d.sz) = (css.flatten).take (n * d.sz) := by
        rw [← h7, List.take_take, Nat.min_eq_left (Nat.mul_le_mul_right _ (by omega))]
      rw [hn, h8]
      have h9 : css.flatten = (css.take n).flatten ++ (css.drop n).flatten := by rw [← List.flatten_append, List.take_append_drop]
      rw [h9, List.take_append_of_le_length (by omega), List.take_of_length_le (by omega)]
  · have hi : i < n := by rw [← hn]; exact (List.getElem?_eq_some_iff.1 hy).1
    refine q3 i y cs (by rw [List.getElem?_append_left (by omega)]; exact hy) ?_ w' (hu.mono (fun b hb => hb.imp id (fun h => by simpa [Value.ownBlock] using h)))
    rw [List.getElem?_take, if_pos hi] at hc
    exact hc

/-- A slice of one element, in a block of its own. -/
theorem own_new {α : Type} {d : Rd α} {e : TypeId} {base b : Nat} {w : World} {cs : Array Value} {x : α} (h : w.heap[b]? = some (.cells cs e (0, 0))) (hb : base ≤ b) (hs : cs.size = d.sz) (hk : ∀ w', Upd (fun q => q < base ∨ (Value.slice (some ⟨b, 0, none⟩) 1 1).ownBlock = some q) w w' → d.K w' x cs.toList) :
    Own d e base w (.slice (some ⟨b, 0, none⟩) 1 1) [x] := by
  refine ⟨[cs.toList], rfl, ⟨by simp [hs], .inr ⟨b, 1, cs, rfl, hb, h, Nat.le_refl _, by decide, by rw [hs, Nat.one_mul], ?_⟩⟩, fun i y c hy hc w' hu => ?_⟩
  · simp only [List.length_cons, List.length_nil, Nat.zero_add, Nat.one_mul, List.flatten_cons, List.flatten_nil, List.append_nil]
    exact List.take_of_length_le (by rw [Array.length_toList, hs]; exact Nat.le_refl _)
  · match i, hy, hc with
    | 0, hy, hc => simp at hy hc; subst hy; subst hc; exact hk w' hu
    | i + 1, hy, _ => simp at hy

set_option maxRecDepth 100000 in
set_option maxHeartbeats 4000000 in
theorem kReverse0 {w : World} {A : Option Addr} {c : Nat} : Calls Try.prog 17 #[.slice A 0 c] w fun e w' => e = .returned (.tuple #[]) ∧ Below w.heap.size w w' := by
  go_enter Try.func17, Try.ntmps17
  go_wp2_with fail
  go_loopw [2, 3] (fun s2 s3 wr => s2 = .int .i64 0 ∧ s3 = .int .i64 (-1) ∧ Below w.heap.size w wr) (fun _ _ _ => 0)
  case atStart => exact ⟨rfl, rfl, below_refl _⟩
  case round =>
    obtain ⟨rfl, rfl, hb⟩ := hrel
    have HB := Lib.hid hb
    clear hb
    go_wp2_with fail
    refine ⟨rfl, .tuple #[], by simp [results, Try.results17, go_sem], ?_⟩
    exact ⟨rfl, HB.out⟩
/-- slices.Reverse at keys of the call's own. -/
theorem kReverseAll {w : World} {ks : List Ky} {A : Option Addr} {c base : Nat} (ho : Own kyRd 59 base w (.slice A ks.length c) ks) (hn : ks.length ≤ 10000) :
    Calls Try.prog 17 #[.slice A ks.length c] w fun e w' => e = .returned (.tuple #[]) ∧ kyRd.C w' A ks.reverse ∧ Upd (fun b => (Value.slice A ks.length c).ownBlock = some b) w w' := by
  by_cases hz : ks = []
  · subst hz
    exact (kReverse0 (A := A) (c := c)).mono fun e w' ⟨h1, h2⟩ => ⟨h1, Rd.C.nil _ _ _, Upd.of_below h2⟩
  · have hl : 0 < ks.length := List.length_pos_iff.2 hz
    obtain ⟨g, cap, hv, -, -, -, h5⟩ := ho.form hl
    injection hv with h1 _ h3
    subst h1
    subst h3
    exact (kReverse ho h5 hn).mono fun e w' ⟨h1, h2, h3⟩ => ⟨h1, h2, h3.mono (fun b hb => by rw [hb]; rfl)⟩
end Go.Proofs.Ytbidpeggdhkahaa
