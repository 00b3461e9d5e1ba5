/-
  B1: templelaw19.awake answers true.
-/
import Derived.Test.YtfmfoiecphhhiaaA4
import Derived.Test.YtfmfoiecphhhiaaHg
set_option linter.unusedSimpArgs false
set_option linter.unusedVariables false
namespace Go.Proofs.Ytfmfoiecphhhiaa
open Go.RowKit

theorem check_form {w : World} {G : Gram} {W : ByteArray} {C : Crt} {e : Ending} {w' : World} (h : CheckPost w G W C e w') (h1 : NotAsked G W C) : e = .returned (.tuple #[.bool false, .int .i64 1900]) ∧ Below w.heap.size w w' := by
  obtain ⟨hb, ⟨_, he⟩ | ⟨hn, _, he⟩ | ⟨hn, _, he⟩⟩ := h
  · exact ⟨he, hb⟩
  · exact absurd h1 hn
  · exact absurd h1 hn
theorem check_no {w : World} {G : Gram} {W : ByteArray} {C : Crt} {e : Ending} {w' : World} (h : CheckPost w G W C e w') (h1 : ¬ NotAsked G W C) (h2 : takenB C G W = false) : e = .returned (.tuple #[.bool false, .int .i64 1901]) ∧ Below w.heap.size w w' := by
  obtain ⟨hb, ⟨hn, he⟩ | ⟨_, _, he⟩ | ⟨_, ht, he⟩⟩ := h
  · exact absurd hn h1
  · exact ⟨he, hb⟩
  · rw [h2] at ht; cases ht
theorem check_yes {w : World} {G : Gram} {W : ByteArray} {C : Crt} {e : Ending} {w' : World} (h : CheckPost w G W C e w') (h1 : ¬ NotAsked G W C) (h2 : takenB C G W = true) : e = .returned (.tuple #[.bool (signB C), .int .i64 0]) ∧ Below w.heap.size w w' := by
  obtain ⟨hb, ⟨hn, he⟩ | ⟨_, ht, he⟩ | ⟨_, _, he⟩⟩ := h
  · exact absurd hn h1
  · rw [h2] at ht; cases ht
  · exact ⟨he, hb⟩
theorem asked_of {G : Gram} {W : ByteArray} {C : Crt} (h1 : mayB G = true) (h2 : edgesOf G = []) (h3 : W.size ≤ 32) (h4 : C.nodes.length ≤ 65536) : ¬ NotAsked G W C := by
  rintro ((hm | ⟨e, he, _⟩) | hn | hn)
  · rw [h1] at hm; cases hm
  · rw [h2] at he; simp at he
  · omega
  · omega
def gA : Gram := ⟨0, [⟨#[83]⟩], [⟨0, [⟨false, [⟨-1, 97, 98⟩]⟩]⟩]⟩
def cA (r : Int) : Crt := ⟨0, [⟨true, 0, 0, ⟨0, 0, 0⟩, 0, 1, 9, [⟨0, 0, [1]⟩]⟩, ⟨true, 1, 0, ⟨0, 0, 0⟩, 0, 1, r, [⟨1, 0, [2]⟩]⟩, ⟨true, 1, 0, ⟨0, 0, 1⟩, 1, 1, 1, []⟩]⟩
def cB : Crt := ⟨0, [⟨false, 0, 0, ⟨0, 0, 0⟩, 0, 1, 0, [⟨0, 0, [1]⟩]⟩, ⟨false, 1, 0, ⟨0, 0, 0⟩, 0, 1, 0, []⟩]⟩
theorem gA_may : mayB gA = true := by decide +kernel
theorem gA_edges : edgesOf gA = [] := by decide +kernel
theorem t1 : takenB (cA 5) gA ⟨#[97]⟩ = true := by decide +kernel
theorem t2 : takenB (cA 5) gA ⟨#[99]⟩ = false := by decide +kernel
theorem t3 : takenB (cA 9) gA ⟨#[97]⟩ = false := by decide +kernel
theorem t4 : takenB cB gA ⟨#[99]⟩ = true := by decide +kernel
theorem wfA (r : Int) (hr : 0 ≤ r ∧ r ≤ 9) : ∀ x ∈ (cA r).nodes, KyWf x.ky := by
  intro x hx
  simp [cA] at hx
  rcases hx with rfl | rfl | rfl <;> (intro n hn; simp [Nod.ky] at hn; omega)
theorem wfB : ∀ x ∈ cB.nodes, KyWf x.ky := by
  intro x hx
  simp [cB] at hx
  rcases hx with rfl | rfl <;> (intro n hn; simp [Nod.ky] at hn; omega)

def intO (xs : List Int) : Obj := .cells (xs.map (Value.int .i64)).toArray 3 (0, 0)
theorem intO_C {w : World} {b : Nat} {xs : List Int} (h : w.heap[b]? = some (intO xs)) : Rd.int.C w (some ⟨b, 0, none⟩) xs := by
  refine C_blk (xs.map fun x => [Value.int .i64 x]) h (by
    congr 1
    induction xs with
    | nil => rfl
    | cons x xs ih => simp only [List.map_cons, List.flatten_cons, List.singleton_append, List.cons.injEq, true_and]; clear h ih; induction xs with | nil => rfl | cons y ys ih => simp [ih]) ?_
  clear h
  induction xs with
  | nil => trivial
  | cons x xs ih => exact ⟨⟨rfl, rfl⟩, ih⟩
def objsA (n : Nat) (r : Int) : List Obj := [
  .cells #[.string ⟨#[83]⟩] 9 (0, 0),
  symO [⟨-1, 97, 98⟩],
  .cells #[.bool false, .slice (some ⟨n + 1, 0, none⟩) 1 1] 26 (0, 0),
  .cells #[.int .i64 0, .slice (some ⟨n + 2, 0, none⟩) 1 1] 29 (0, 0),
  .cells #[.int .i64 0, .slice (some ⟨n, 0, none⟩) 1 1, .slice (some ⟨n + 3, 0, none⟩) 1 1] 32 (0, 0),
  intO [1],
  .cells #[.int .i64 0, .int .i64 0, .slice (some ⟨n + 5, 0, none⟩) 1 1] 51 (0, 0),
  intO [2],
  .cells #[.int .i64 1, .int .i64 0, .slice (some ⟨n + 7, 0, none⟩) 1 1] 51 (0, 0),
  .cells #[.bool true, .int .i64 0, .int .i64 0, .int .i64 0, .int .i64 0, .int .i64 0, .int .i64 0, .int .i64 1, .int .i64 9, .slice (some ⟨n + 6, 0, none⟩) 1 1,
    .bool true, .int .i64 1, .int .i64 0, .int .i64 0, .int .i64 0, .int .i64 0, .int .i64 0, .int .i64 1, .int .i64 r, .slice (some ⟨n + 8, 0, none⟩) 1 1,
    .bool true, .int .i64 1, .int .i64 0, .int .i64 0, .int .i64 0, .int .i64 1, .int .i64 1, .int .i64 1, .int .i64 1, .slice none 0 0] 37 (0, 0),
  .cells #[.int .i64 0, .slice (some ⟨n + 9, 0, none⟩) 3 3] 40 (0, 0)]
def LieA (W : World) (n : Nat) (r : Int) : Prop := ∀ k o, (objsA n r)[k]? = some o → W.heap[n + k]? = some o
theorem lieA_start (w : World) (r : Int) : LieA (allocs w (objsA w.heap.size r)) w.heap.size r := fun k o h => allocs_heap _ _ _ _ h
theorem LieA.below {W W' : World} {n : Nat} {r : Int} (h : LieA W n r) (hb : Below W.heap.size W W') : LieA W' n r := fun k o ho => blk_below (h k o ho) hb
theorem LieA.store {W : World} {n : Nat} {r : Int} (h : LieA W n r) (r' : Int) : LieA (W.setCell ⟨n + 9, 18, none⟩ (.int .i64 r')) n r' := by
  intro k o ho
  by_cases hk : k = 9
  · subst hk
    have := blk_set (h 9 _ rfl) 18 (.int .i64 r')
    rw [this]
    exact ho
  · have hlt : k < 11 := by have := (List.getElem?_eq_some_iff.1 ho).1; simpa [objsA] using this
    have h0 : (objsA n r)[k]? = some o := by
      match k, hk, hlt with
      | 0, _, _ => exact ho
      | 1, _, _ => exact ho
      | 2, _, _ => exact ho
      | 3, _, _ => exact ho
      | 4, _, _ => exact ho
      | 5, _, _ => exact ho
      | 6, _, _ => exact ho
      | 7, _, _ => exact ho
      | 8, _, _ => exact ho
      | 10, _, _ => exact ho
    have h1 := h k o h0
    exact (Below.heap_setCell W ⟨n + 9, 18, none⟩ (.int .i64 r') (n + k) (by simp only; omega)).trans h1
theorem lieA_G {W : World} {n : Nat} {r : Int} (h : LieA W n r) : Rd.str.C W (some ⟨n, 0, none⟩) gA.names ∧ rulRd.C W (some ⟨n + 3, 0, none⟩) gA.rules := by
  have c1 := symO_C (h 1 _ rfl)
  have d2 : conjRd.C W (some ⟨n + 2, 0, none⟩) [⟨false, [⟨-1, 97, 98⟩]⟩] := C_blk [[.bool false, .slice (some ⟨n + 1, 0, none⟩) 1 1]] (h 2 _ rfl) rfl ⟨⟨conjRd_mk (x := ⟨false, [⟨-1, 97, 98⟩]⟩) (by decide) (by decide) c1, rfl⟩, trivial⟩
  exact ⟨C_blk [[.string ⟨#[83]⟩]] (h 0 _ rfl) rfl ⟨⟨rfl, rfl⟩, trivial⟩, C_blk [[.int .i64 0, .slice (some ⟨n + 2, 0, none⟩) 1 1]] (h 3 _ rfl) rfl ⟨⟨rulRd_mk (x := ⟨0, [⟨false, [⟨-1, 97, 98⟩]⟩]⟩) (by decide) (by decide) d2, rfl⟩, trivial⟩⟩
theorem lieA_C {W : World} {n : Nat} {r : Int} (h : LieA W n r) : nodRd.C W (some ⟨n + 9, 0, none⟩) (cA r).nodes := by
  have i5 := intO_C (h 5 _ rfl)
  have i7 := intO_C (h 7 _ rfl)
  have p6 : pckRd.C W (some ⟨n + 6, 0, none⟩) [⟨0, 0, [1]⟩] := C_blk [[.int .i64 0, .int .i64 0, .slice (some ⟨n + 5, 0, none⟩) 1 1]] (h 6 _ rfl) rfl ⟨⟨pckRd_mk (x := ⟨0, 0, [1]⟩) (by decide) (by decide) i5, rfl⟩, trivial⟩
  have p8 : pckRd.C W (some ⟨n + 8, 0, none⟩) [⟨1, 0, [2]⟩] := C_blk [[.int .i64 1, .int .i64 0, .slice (some ⟨n + 7, 0, none⟩) 1 1]] (h 8 _ rfl) rfl ⟨⟨pckRd_mk (x := ⟨1, 0, [2]⟩) (by decide) (by decide) i7, rfl⟩, trivial⟩
  exact C_blk [[.bool true, .int .i64 0, .int .i64 0, .int .i64 0, .int .i64 0, .int .i64 0, .int .i64 0, .int .i64 1, .int .i64 9, .slice (some ⟨n + 6, 0, none⟩) 1 1],
    [.bool true, .int .i64 1, .int .i64 0, .int .i64 0, .int .i64 0, .int .i64 0, .int .i64 0, .int .i64 1, .int .i64 r, .slice (some ⟨n + 8, 0, none⟩) 1 1],
    [.bool true, .int .i64 1, .int .i64 0, .int .i64 0, .int .i64 0, .int .i64 1, .int .i64 1, .int .i64 1, .int .i64 1, .slice none 0 0]] (h 9 _ rfl) rfl
    ⟨⟨nodRd_mk (x := ⟨true, 0, 0, ⟨0, 0, 0⟩, 0, 1, 9, [⟨0, 0, [1]⟩]⟩) (by decide) (by decide) p6, rfl⟩, ⟨nodRd_mk (x := ⟨true, 1, 0, ⟨0, 0, 0⟩, 0, 1, r, [⟨1, 0, [2]⟩]⟩) (by simp) (by decide) p8, rfl⟩, ⟨nodRd_mk (x := ⟨true, 1, 0, ⟨0, 0, 1⟩, 1, 1, 1, []⟩) (by decide) (by decide) (Rd.C.nil _ _ _), rfl⟩, trivial⟩
theorem chkA {W : World} {n n3 n9 : Nat} {r : Int} (h : LieA W n r) (h3 : n3 = n + 3) (h9 : n9 = n + 9) (hr : 0 ≤ r ∧ r ≤ 9) (s : ByteArray) (hs : s.size < 9223372036854775807) :
    Calls Try.prog 7 #[.agg #[.int .i64 0, .slice (some ⟨n, 0, none⟩) 1 1, .slice (some ⟨n3, 0, none⟩) 1 1], .string s, .agg #[.int .i64 0, .slice (some ⟨n9, 0, none⟩) 3 3]] W (CheckPost W gA s (cA r)) := by
  subst h3 h9
  exact check_any gA s (cA r) (c := 1) (c' := 1) (cn := 3) hs (by decide) (by decide) (lieA_G h).1 (by decide) (by decide) (lieA_G h).2 (by simp [cA]) (by decide) (lieA_C h) (wfA r hr)
theorem chkE {W : World} {n n9 : Nat} {r : Int} (h : LieA W n r) (h9 : n9 = n + 9) (hr : 0 ≤ r ∧ r ≤ 9) (s : ByteArray) (hs : s.size < 9223372036854775807) :
    Calls Try.prog 7 #[.agg #[.int .i64 0, .slice none 0 0, .slice none 0 0], .string s, .agg #[.int .i64 0, .slice (some ⟨n9, 0, none⟩) 3 3]] W (CheckPost W ⟨0, [], []⟩ s (cA r)) := by
  subst h9
  exact check_any ⟨0, [], []⟩ s (cA r) (c := 0) (c' := 0) (cn := 3) hs (by decide) (by decide) (Rd.C.nil _ _ _) (by decide) (by decide) (Rd.C.nil _ _ _) (by simp [cA]) (by decide) (lieA_C h) (wfA r hr)
theorem empty_form {s : ByteArray} {C : Crt} : NotAsked ⟨0, [], []⟩ s C := .inl (.inl (by decide +kernel))

def objsB (m : Nat) : List Obj := [
  intO [1],
  .cells #[.int .i64 0, .int .i64 0, .slice (some ⟨m, 0, none⟩) 1 1] 51 (0, 0),
  .cells #[.bool false, .int .i64 0, .int .i64 0, .int .i64 0, .int .i64 0, .int .i64 0, .int .i64 0, .int .i64 1, .int .i64 0, .slice (some ⟨m + 1, 0, none⟩) 1 1,
    .bool false, .int .i64 1, .int .i64 0, .int .i64 0, .int .i64 0, .int .i64 0, .int .i64 0, .int .i64 1, .int .i64 0, .slice none 0 0] 37 (0, 0)]
theorem lieB_C (w : World) : nodRd.C (allocs w (objsB w.heap.size)) (some ⟨w.heap.size + 2, 0, none⟩) cB.nodes := by
  have H : ∀ k o, (objsB w.heap.size)[k]? = some o → (allocs w (objsB w.heap.size)).heap[w.heap.size + k]? = some o := fun k o h => allocs_heap _ _ _ _ h
  have i0 := intO_C (H 0 _ rfl)
  have p1 : pckRd.C (allocs w (objsB w.heap.size)) (some ⟨w.heap.size + 1, 0, none⟩) [⟨0, 0, [1]⟩] := C_blk [[.int .i64 0, .int .i64 0, .slice (some ⟨w.heap.size, 0, none⟩) 1 1]] (H 1 _ rfl) rfl ⟨⟨pckRd_mk (x := ⟨0, 0, [1]⟩) (by decide) (by decide) i0, rfl⟩, trivial⟩
  exact C_blk [[.bool false, .int .i64 0, .int .i64 0, .int .i64 0, .int .i64 0, .int .i64 0, .int .i64 0, .int .i64 1, .int .i64 0, .slice (some ⟨w.heap.size + 1, 0, none⟩) 1 1],
    [.bool false, .int .i64 1, .int .i64 0, .int .i64 0, .int .i64 0, .int .i64 0, .int .i64 0, .int .i64 1, .int .i64 0, .slice none 0 0]] (H 2 _ rfl) rfl
    ⟨⟨nodRd_mk (x := ⟨false, 0, 0, ⟨0, 0, 0⟩, 0, 1, 0, [⟨0, 0, [1]⟩]⟩) (by decide) (by decide) p1, rfl⟩, ⟨nodRd_mk (x := ⟨false, 1, 0, ⟨0, 0, 0⟩, 0, 1, 0, []⟩) (by decide) (by decide) (Rd.C.nil _ _ _), rfl⟩, trivial⟩
theorem chkB {W : World} {n n3 m : Nat} {r : Int} (h : LieA W n r) (h3 : n3 = n + 3) (hB : nodRd.C W (some ⟨m, 0, none⟩) cB.nodes) (s : ByteArray) (hs : s.size < 9223372036854775807) :
    Calls Try.prog 7 #[.agg #[.int .i64 0, .slice (some ⟨n, 0, none⟩) 1 1, .slice (some ⟨n3, 0, none⟩) 1 1], .string s, .agg #[.int .i64 0, .slice (some ⟨m, 0, none⟩) 2 2]] W (CheckPost W gA s cB) := by
  subst h3
  exact check_any gA s cB (c := 1) (c' := 1) (cn := 2) hs (by decide) (by decide) (lieA_G h).1 (by decide) (by decide) (lieA_G h).2 (by decide) (by decide) hB wfB

set_option maxRecDepth 100000 in
set_option maxHeartbeats 8000000 in
theorem awake_any (w : World) : Calls Try.prog 6 #[] w fun e w' => e = .returned (.bool true) ∧ Below w.heap.size w w' := by
  have HL := Lib.hid (lieA_start w 5)
  have hb0 : Below w.heap.size w (allocs w (objsA w.heap.size 5)) := allocs_below _ (below_refl w)
  go_enter Try.func6, Try.ntmps6
  go_wp2_with fail
  change Calls _ _ _ (allocs w (objsA w.heap.size 5)) _
  have hl : w.heap.size + 10 < (allocs w (objsA w.heap.size 5)).heap.size := blk_lt (HL.out 10 _ rfl)
  generalize allocs w (objsA w.heap.size 5) = w0 at HL hb0 hl ⊢
  generalize h10 : w.heap.size + 1 + 1 + 1 + 1 + 1 + 1 + 1 + 1 + 1 + 1 = n10
  generalize h9 : w.heap.size + 1 + 1 + 1 + 1 + 1 + 1 + 1 + 1 + 1 = n9
  generalize h4 : w.heap.size + 1 + 1 + 1 + 1 = n4
  generalize h3 : w.heap.size + 1 + 1 + 1 = n3
  have h10' : n10 = w.heap.size + 10 := by omega
  have h9' : n9 = w.heap.size + 9 := by omega
  have h4' : n4 = w.heap.size + 4 := by omega
  have h3' : n3 = w.heap.size + 3 := by omega
  have HB0 := Lib.hid hb0
  have K10 := Lib.hid h10'
  have K9 := Lib.hid h9'
  have K4 := Lib.hid h4'
  have K3 := Lib.hid h3'
  clear h10 h9 h4 h3 hb0 hl h10' h9' h4' h3'
  refine ((chkA HL.out K3.out K9.out (by omega) ⟨#[97]⟩ (by decide)).mono fun e w' h => check_yes h (asked_of gA_may gA_edges (by decide) (by decide)) t1).mono ?_
  rintro e w1 ⟨rfl, hb1⟩
  have HL1 := Lib.hid (HL.out.below hb1)
  have HB1 := Lib.hid (below_trans HB0.out hb1)
  clear hb1
  rw [show signB (cA 5) = true from by decide +kernel]
  have z0 : w1.cell? ⟨n4, 0, none⟩ = some (.int .i64 0) := by rw [K4.out]; exact blk_cell (HL1.out 4 _ rfl) 0
  have z1 : w1.cell? ⟨n4, 1, none⟩ = some (.slice (some ⟨w.heap.size, 0, none⟩) 1 1) := by rw [K4.out]; exact blk_cell (HL1.out 4 _ rfl) 1
  have z2 : w1.cell? ⟨n4, 2, none⟩ = some (.slice (some ⟨n3, 0, none⟩) 1 1) := by rw [K4.out, K3.out]; exact blk_cell (HL1.out 4 _ rfl) 2
  have y0 : w1.cell? ⟨n10, 0, none⟩ = some (.int .i64 0) := by rw [K10.out]; exact blk_cell (HL1.out 10 _ rfl) 0
  have y1 : w1.cell? ⟨n10, 1, none⟩ = some (.slice (some ⟨n9, 0, none⟩) 3 3) := by rw [K10.out, K9.out]; exact blk_cell (HL1.out 10 _ rfl) 1
  go_wp2_with fail
  clear z0 z1 z2 y0 y1
  refine ((chkA HL1.out K3.out K9.out (by omega) ⟨#[99]⟩ (by decide)).mono fun e w' h => check_no h (asked_of gA_may gA_edges (by decide) (by decide)) t2).mono ?_
  rintro e w2 ⟨rfl, hb2⟩
  have HL2 := Lib.hid (HL1.out.below hb2)
  have HB2 := Lib.hid (below_trans HB1.out hb2)
  clear hb2
  have z0 : w2.cell? ⟨n4, 0, none⟩ = some (.int .i64 0) := by rw [K4.out]; exact blk_cell (HL2.out 4 _ rfl) 0
  have z1 : w2.cell? ⟨n4, 1, none⟩ = some (.slice (some ⟨w.heap.size, 0, none⟩) 1 1) := by rw [K4.out]; exact blk_cell (HL2.out 4 _ rfl) 1
  have z2 : w2.cell? ⟨n4, 2, none⟩ = some (.slice (some ⟨n3, 0, none⟩) 1 1) := by rw [K4.out, K3.out]; exact blk_cell (HL2.out 4 _ rfl) 2
  have y0 : w2.cell? ⟨n10, 0, none⟩ = some (.int .i64 0) := by rw [K10.out]; exact blk_cell (HL2.out 10 _ rfl) 0
  have y1 : w2.cell? ⟨n10, 1, none⟩ = some (.slice (some ⟨n9, 0, none⟩) 3 3) := by rw [K10.out, K9.out]; exact blk_cell (HL2.out 10 _ rfl) 1
  go_wp2_with fail
  clear z0 z1 z2 y0 y1
  refine ((chkE HL2.out K9.out (by omega) ⟨#[97]⟩ (by decide)).mono fun e w' h => check_form h empty_form).mono ?_
  rintro e w3 ⟨rfl, hb3⟩
  have HL3 := Lib.hid (HL2.out.below hb3)
  have HB3 := Lib.hid (below_trans HB2.out hb3)
  clear hb3
  have z0 : w3.cell? ⟨n4, 0, none⟩ = some (.int .i64 0) := by rw [K4.out]; exact blk_cell (HL3.out 4 _ rfl) 0
  have z1 : w3.cell? ⟨n4, 1, none⟩ = some (.slice (some ⟨w.heap.size, 0, none⟩) 1 1) := by rw [K4.out]; exact blk_cell (HL3.out 4 _ rfl) 1
  have z2 : w3.cell? ⟨n4, 2, none⟩ = some (.slice (some ⟨n3, 0, none⟩) 1 1) := by rw [K4.out, K3.out]; exact blk_cell (HL3.out 4 _ rfl) 2
  have y0 : w3.cell? ⟨n10, 0, none⟩ = some (.int .i64 0) := by rw [K10.out]; exact blk_cell (HL3.out 10 _ rfl) 0
  have y1 : w3.cell? ⟨n10, 1, none⟩ = some (.slice (some ⟨n9, 0, none⟩) 3 3) := by rw [K10.out, K9.out]; exact blk_cell (HL3.out 10 _ rfl) 1
  have x18 : w3.cell? ⟨n9, 18, none⟩ = some (.int .i64 5) := by rw [K9.out]; exact blk_cell (HL3.out 9 _ rfl) 18
  have f18 : w3.frozen? ⟨n9, 18, none⟩ = false := by rw [K9.out]; exact blk_frozen (HL3.out 9 _ rfl) 18
  have ne1 : n4 ≠ n9 := by rw [K4.out, K9.out]; omega
  have ne2 : n10 ≠ n9 := by rw [K10.out, K9.out]; omega
  have ne3 : n9 ≠ n4 := by rw [K4.out, K9.out]; omega
  have ne4 : n9 ≠ n10 := by rw [K10.out, K9.out]; omega
  go_wp2_with fail
  clear z0 z1 z2 y0 y1 x18 f18
  have HL4 := Lib.hid (show LieA (w3.setCell ⟨n9, 18, none⟩ (.int .i64 9)) w.heap.size 9 by rw [K9.out]; exact HL3.out.store 9)
  have HB4 := Lib.hid (show Below w.heap.size w (w3.setCell ⟨n9, 18, none⟩ (.int .i64 9)) from below_setNew HB3.out (by simp only; rw [K9.out]; omega) _)
  generalize w3.setCell ⟨n9, 18, none⟩ (.int .i64 9) = w4 at HL4 HB4 ⊢
  refine ((chkA HL4.out K3.out K9.out (by omega) ⟨#[97]⟩ (by decide)).mono fun e w' h => check_no h (asked_of gA_may gA_edges (by decide) (by decide)) t3).mono ?_
  rintro e w5 ⟨rfl, hb5⟩
  have HL5 := Lib.hid (HL4.out.below hb5)
  have HB5 := Lib.hid (below_trans HB4.out hb5)
  clear hb5
  have z0 : w5.cell? ⟨n4, 0, none⟩ = some (.int .i64 0) := by rw [K4.out]; exact blk_cell (HL5.out 4 _ rfl) 0
  have z1 : w5.cell? ⟨n4, 1, none⟩ = some (.slice (some ⟨w.heap.size, 0, none⟩) 1 1) := by rw [K4.out]; exact blk_cell (HL5.out 4 _ rfl) 1
  have z2 : w5.cell? ⟨n4, 2, none⟩ = some (.slice (some ⟨n3, 0, none⟩) 1 1) := by rw [K4.out, K3.out]; exact blk_cell (HL5.out 4 _ rfl) 2
  have y0 : w5.cell? ⟨n10, 0, none⟩ = some (.int .i64 0) := by rw [K10.out]; exact blk_cell (HL5.out 10 _ rfl) 0
  have y1 : w5.cell? ⟨n10, 1, none⟩ = some (.slice (some ⟨n9, 0, none⟩) 3 3) := by rw [K10.out, K9.out]; exact blk_cell (HL5.out 10 _ rfl) 1
  go_wp2_with fail
  change Calls _ _ _ (allocs w5 (objsB w5.heap.size)) _
  have hb6 : Below w5.heap.size w5 (allocs w5 (objsB w5.heap.size)) := allocs_below _ (below_refl w5)
  have HL6 := Lib.hid (HL5.out.below hb6)
  have HB6 := Lib.hid (below_trans HB5.out hb6)
  have HN6 := Lib.hid (lieB_C w5)
  clear hb6 z0 z1 z2 y0 y1
  generalize allocs w5 (objsB w5.heap.size) = w6 at HL6 HB6 HN6 ⊢
  refine ((chkB HL6.out K3.out HN6.out ⟨#[99]⟩ (by decide)).mono fun e w' h => check_yes h (asked_of gA_may gA_edges (by decide) (by decide)) t4).mono ?_
  rintro e w7 ⟨rfl, hb7⟩
  have HB7 := Lib.hid (below_trans HB6.out hb7)
  clear hb7
  rw [show signB cB = false from by decide +kernel]
  go_wp2_with (first
    | (go_at_call 8; refine (num_any _ _).mono ?_; rintro e w' ⟨rfl, rfl⟩)
    | fail)
  go_ret
  exact ⟨rfl, HB7.out⟩
end Go.Proofs.Ytfmfoiecphhhiaa
