/-
  I6: (*ways.Maker).chosen, byte.
  A4: rows of new blocks; how literal grammars lie; templelaw0.Num.
  I7: (*ways.Maker).byte.
-/
import Derived.Test.YtbidpeggdhkahaaGreatI5
import Derived.Test.YtbidpeggdhkahaaGreatR1
import Derived.Laws.Bits64b
import Derived.Laws.IdiomStrings
set_option linter.unusedSimpArgs false
set_option linter.unusedVariables false
namespace Go.Proofs.YtbidpeggdhkahaaGreat
open Go.RowKit

/-- What hands back steps leaves: they lie apart from the blocks below lo. -/
def PicksL (lo : Nat) (w : World) (ss : List Stp) (e : Ending) (w' : World) : Prop :=
  ∃ A c, e = .returned (.slice A ss.length c) ∧ ss.length ≤ c ∧ c ≤ 9223372036854775807 ∧ (∀ w'', Upd (fun b => b < lo) w' w'' → stpRd.C w'' A ss) ∧ Below w.heap.size w w'
def PicksPost (w : World) (ss : List Stp) (e : Ending) (w' : World) : Prop := PicksL w.heap.size w ss e w'
theorem picksPost_nil {w w' : World} (h : Below w.heap.size w w') : PicksPost w [] (.returned (.slice none 0 0)) w' := ⟨none, 0, rfl, Nat.le_refl _, by decide, fun _ _ => Rd.C.nil _ _ _, h⟩
theorem upd_low {lo lo' : Nat} {w w' : World} (h : Upd (fun b => b < lo) w w') (hl : lo ≤ lo') : Upd (fun b => b < lo') w w' := h.mono (fun b hb => Nat.lt_of_lt_of_le hb hl)
/-- An owned slice lies apart from what stood before. -/
theorem own_far {α : Type} {d : Rd α} {e : TypeId} {base lo : Nat} {w : World} {A : Option Addr} {n c : Nat} {xs : List α} (h : Own d e base w (.slice A n c) xs) (hl : lo ≤ base) : ∀ w'', Upd (fun b => b < lo) w w'' → d.C w'' A xs := fun w'' hu => by
  obtain ⟨A', c', e', _, _, hC⟩ := (h.upd hu (fun b hb => Nat.lt_of_lt_of_le hb hl)).shape
  injection e' with e' _ _
  rw [e']; exact hC

set_option maxRecDepth 100000 in
set_option maxHeartbeats 2000000 in
/-- The closure of 'chosen'. -/
theorem chosen1 {w : World} {m : MK} (h : MKAt w m) (F : m.Fits) {b3 b5 : Nat} {rank : Int} (c3 : w.cell? ⟨b3, 0, none⟩ = some (.pointer (some ⟨m.p, 0, none⟩))) (c5 : w.cell? ⟨b5, 0, none⟩ = some (.int .i64 rank)) (x : Stp) {A : Option Addr} {c : Nat} (h1 : x.kids.length ≤ c) (h2 : c ≤ 9223372036854775807) (hk : kyRd.C w A x.kids) :
    Calls Tryz.prog 76 #[.agg #[.int .i64 x.sp, .int .i64 x.cj, .slice A x.kids.length c], .pointer (some ⟨b3, 0, none⟩), .pointer (some ⟨b5, 0, none⟩)] w fun e w' => e = .returned (.bool (lessKB m.R x.kids rank)) ∧ Below w.heap.size w w' := by
  have hb0 : Below w.heap.size w (w.alloc (.cells #[.int .i64 x.sp, .int .i64 x.cj, .slice A x.kids.length c] 100)) := below_alloc' (below_refl w) _
  have H0 := Lib.hid (h.mono hb0)
  have c3 := below_cell hb0 c3
  have c5 := below_cell hb0 c5
  have KD := Lib.hid (hk.mono hb0)
  have B0 := heap_alloc_new w (.cells #[.int .i64 x.sp, .int .i64 x.cj, .slice A x.kids.length c] 100)
  obtain ⟨b0, hb⟩ : ∃ b0, b0 = w.heap.size := ⟨_, rfl⟩
  go_enter Tryz.func76, Tryz.ntmps76
  go_upto_region 1 with fail
  change Code.wp _ _ _ _ (w.alloc (.cells #[.int .i64 x.sp, .int .i64 x.cj, .slice A x.kids.length c] 100))
  rw [← hb] at B0 ⊢
  generalize w.alloc (.cells #[.int .i64 x.sp, .int .i64 x.cj, .slice A x.kids.length c] 100) = w0 at hb0 H0 B0 c3 c5 KD ⊢
  have HB0 := Lib.hid hb0
  have k0 : w0.cell? ⟨b0, 0, none⟩ = some (.int .i64 x.sp) := blk_cell B0 0
  have k1 : w0.cell? ⟨b0, 1, none⟩ = some (.int .i64 x.cj) := by simpa using blk_cell B0 1
  have k2 : w0.cell? ⟨b0, 2, none⟩ = some (.slice A x.kids.length c) := by simpa using blk_cell B0 2
  have CL := Lib.hid (mLesser H0.out F KD.out h1 h2 rank)
  clear hb0 B0 hb h hk
  go_wp2_with (go_at_call 77; refine CL.out.mono ?_; rintro e w' ⟨rfl, hb'⟩; have HB' := Lib.hid hb'; clear hb')
  go_ret
  exact ⟨rfl, below_then HB0.out HB'.out⟩

theorem find_idxP {α : Type} {p : α → Bool} {xs : List α} {x0 : α} (h0 : x0 ∈ xs) (hp : p x0 = true) : ∃ (k : Nat) (x : α), idxP p xs = k ∧ k < xs.length ∧ xs[k]? = some x ∧ xs.find? p = some x := by
  cases hf : xs.findIdx? p with
  | none =>
    rw [List.findIdx?_eq_none_iff] at hf
    rw [hf x0 h0] at hp; cases hp
  | some k =>
    obtain ⟨hk, h1, h2⟩ := List.findIdx?_eq_some_iff_getElem.1 hf
    refine ⟨k, xs[k], by unfold idxP; rw [hf], hk, List.getElem?_eq_getElem hk, ?_⟩
    rw [List.find?_eq_some_iff_getElem]
    exact ⟨h1, k, hk, rfl, fun j hj => by simpa using h2 j hj⟩

set_option maxRecDepth 100000 in
set_option maxHeartbeats 2000000 in
/-- (*ways.Maker).chosen. -/
theorem mChosen {w : World} {m : MK} (h : MKAt w m) (F : m.Fits) {ss : List Stp} {A : Option Addr} {c : Nat} {lo : Nat} (hCf : ∀ w'', Upd (fun b => b < lo) w w'' → stpRd.C w'' A ss) (h1 : ss.length ≤ c) (h2 : c ≤ 9223372036854775807) (rank : Int) (hx : m.full = false → ∃ s ∈ ss, lessKB m.R s.kids rank = true) :
    Calls Tryz.prog 56 #[.pointer (some ⟨m.p, 0, none⟩), .slice A ss.length c, .int .i64 rank] w (PicksL lo w (chosenB m.R m.full ss rank)) := by
  have hC := hCf w (Upd.refl _ _)
  have HCF := Lib.hid hCf
  clear hCf
  have hb0 : Below w.heap.size w ((w.alloc (.cells #[.pointer (some ⟨m.p, 0, none⟩)] 51)).alloc (.cells #[.int .i64 rank] 3)) := below_alloc' (below_alloc' (below_refl w) _) _
  have H0 := Lib.hid (h.mono hb0)
  have C0 := Lib.hid (hC.mono hb0)
  have x3 := heap_alloc2_old w (.cells #[.pointer (some ⟨m.p, 0, none⟩)] 51) (.cells #[.int .i64 rank] 3)
  have x5 := heap_alloc2_new w (.cells #[.pointer (some ⟨m.p, 0, none⟩)] 51) (.cells #[.int .i64 rank] 3)
  obtain ⟨b0, hb⟩ : ∃ b0, b0 = w.heap.size := ⟨_, rfl⟩
  have m3 := h.m3
  cases hf : m.full with
  | true =>
    rw [hf] at m3
    have m3' := below_cell hb0 m3
    clear h hC hx
    go_enter Tryz.func56, Tryz.ntmps56
    go_upto_region 1 with fail
    change Code.wp _ _ _ _ ((w.alloc (.cells #[.pointer (some ⟨m.p, 0, none⟩)] 51)).alloc (.cells #[.int .i64 rank] 3))
    rw [← hb] at x3 x5 ⊢
    generalize (w.alloc (.cells #[.pointer (some ⟨m.p, 0, none⟩)] 51)).alloc (.cells #[.int .i64 rank] 3) = w0 at hb0 H0 C0 x3 x5 m3' ⊢
    have y0 : w0.cell? ⟨b0, 0, none⟩ = some (.pointer (some ⟨m.p, 0, none⟩)) := blk_cell x3 0
    have HB0 := Lib.hid hb0
    clear hb0 hb x3 x5 m3
    go_wp2_with fail
    go_ret
    exact ⟨A, c, rfl, h1, h2, fun w'' hu => HCF.out _ ((Upd.of_below HB0.out).trans hu), HB0.out⟩
  | false =>
    rw [hf] at m3
    have m3' := below_cell hb0 m3
    obtain ⟨s0, hs0, hl0⟩ := hx hf
    obtain ⟨k, x, hi, hk, hkx, hfind⟩ := find_idxP (p := fun s : Stp => lessKB m.R s.kids rank) hs0 hl0
    have HV := Lib.hid (show chosenB m.R false ss rank = [x] by unfold chosenB; rw [if_neg (by decide), hfind]; rfl)
    have HI := Lib.hid hi
    obtain ⟨ad, -, -, rfl, -⟩ := stp_at hC hkx
    have HS := Lib.hid (show ∀ w', Upd (fun b => b < lo) w w' → stpRd.C w' (some (ad.add (k * 3))) [x] from fun w' hw => by
      have := Rd.C.sub (HCF.out w' hw) k 1
      rw [show (ss.drop k).take 1 = [x] by rw [List.drop_eq_getElem_cons hk]; rw [List.getElem?_eq_getElem hk] at hkx; injection hkx with hkx; rw [hkx]; rfl] at this
      exact this)
    clear h hC hx hs0 hl0 hi hkx hfind
    go_enter Tryz.func56, Tryz.ntmps56
    go_upto_region 1 with fail
    change Code.wp _ _ _ _ ((w.alloc (.cells #[.pointer (some ⟨m.p, 0, none⟩)] 51)).alloc (.cells #[.int .i64 rank] 3))
    rw [← hb] at x3 x5 ⊢
    generalize (w.alloc (.cells #[.pointer (some ⟨m.p, 0, none⟩)] 51)).alloc (.cells #[.int .i64 rank] 3) = w0 at hb0 H0 C0 x3 x5 m3' ⊢
    have y0 : w0.cell? ⟨b0, 0, none⟩ = some (.pointer (some ⟨m.p, 0, none⟩)) := blk_cell x3 0
    have CL := Lib.hid (idx_steps (g := 76) (lb := #[.pointer (some ⟨b0, 0, none⟩), .pointer (some ⟨b0 + 1, 0, none⟩)]) (fun s : Stp => lessKB m.R s.kids rank) eg_chosen C0.out h1 h2 (fun W x A1 c1 hW k1 k2 k3 => chosen1 (H0.out.mono hW) F (by simpa using blk_cell (blk_below x3 hW) 0) (by simpa using blk_cell (blk_below x5 hW) 0) x k1 k2 k3))
    rw [HI.out] at CL
    have HB0 := Lib.hid hb0
    clear hb0 hb x3 x5 m3 HI
    have e0 : (0 : Int) ≤ (k : Int) := by omega
    have e1 : (k : Int) ≤ (k : Int) + 1 := by omega
    have e2 : (k : Int) + 1 ≤ (c : Int) := by omega
    have e3 : IntKind.i64.wrap ((k : Int) + 1) = (k : Int) + 1 := IntWalk.i64_in _ (by omega)
    go_wp2_with (first
      | (go_at_call 75; refine CL.out.mono ?_; rintro e w' ⟨rfl, hb⟩; have HB := Lib.hid hb; clear hb)
      | fail)
    go_ret
    rw [HV.out]
    refine ⟨some (ad.add (k * 3)), c - k, ?_, by simp; omega, by omega, fun w'' hu => HS.out _ ((Upd.of_below (below_then HB0.out HB.out)).trans hu), below_then HB0.out HB.out⟩
    simp
end Go.Proofs.YtbidpeggdhkahaaGreat

set_option linter.unusedSimpArgs false
set_option linter.unusedVariables false
namespace Go.Proofs.YtbidpeggdhkahaaGreat
open Go.RowKit

/-- A grammar handed back. -/
def GramPost (w : World) (G : Gram) (e : Ending) (w' : World) : Prop :=
  Below w.heap.size w w' ∧ ∃ (A : Option Addr) (c : Nat) (A' : Option Addr) (c' : Nat), e = .returned (.agg #[.int .i64 G.start, .slice A G.names.length c, .slice A' G.rules.length c']) ∧
    G.names.length ≤ c ∧ c ≤ 9223372036854775807 ∧ Rd.str.C w' A G.names ∧ G.rules.length ≤ c' ∧ c' ≤ 9223372036854775807 ∧ rulRd.C w' A' G.rules
theorem num_any (x : Int) (w : World) : Calls Tryz.prog 10 #[.int .i64 x] w fun e w' => e = .returned (.int .i64 x) ∧ w' = w := by
  go_enter Tryz.func10, Tryz.ntmps10
  go_wp2
  go_ret
  exact ⟨rfl, rfl⟩
/-- New blocks, one behind the other. -/
def allocs (w : World) : List Obj → World
  | [] => w
  | o :: os => allocs (w.alloc o) os
theorem allocs_below {w : World} : ∀ (os : List Obj) {W : World}, Below w.heap.size w W → Below w.heap.size w (allocs W os) := by
  intro os
  induction os with
  | nil => intro W h; exact h
  | cons o os ih => intro W h; exact ih (below_alloc' h o)
theorem allocs_old : ∀ (os : List Obj) (w : World) (k : Nat), k < w.heap.size → (allocs w os).heap[k]? = w.heap[k]? := by
  intro os
  induction os with
  | nil => intro w k _; rfl
  | cons o os ih =>
    intro w k hk
    rw [allocs, ih _ _ (by simp; omega)]
    exact heap_alloc_old w o hk
theorem allocs_heap : ∀ (os : List Obj) (w : World) (k : Nat) (o : Obj), os[k]? = some o → (allocs w os).heap[w.heap.size + k]? = some o := by
  intro os
  induction os with
  | nil => intro w k o h; simp at h
  | cons o' os ih =>
    intro w k o h
    cases k with
    | zero =>
      simp at h
      subst h
      rw [allocs, Nat.add_zero, allocs_old _ _ _ (by simp)]
      exact heap_alloc_new w o'
    | succ k =>
      have h1 := ih (w.alloc o') k o (by simpa using h)
      rw [World.size_alloc] at h1
      rw [allocs, show w.heap.size + (k + 1) = w.heap.size + 1 + k by omega]
      exact h1
def AllK {α : Type} (d : Rd α) (w : World) : List α → List (List Value) → Prop
  | [], [] => True
  | x :: xs, cs :: css => (d.K w x cs ∧ cs.length = d.sz) ∧ AllK d w xs css
  | _, _ => False
theorem AllK.get {α : Type} {d : Rd α} {w : World} : ∀ {xs : List α} {css : List (List Value)}, AllK d w xs css → (∀ cs ∈ css, cs.length = d.sz) ∧ ∀ (i : Nat) (x : α), xs[i]? = some x → ∃ cs, css[i]? = some cs ∧ d.K w x cs := by
  intro xs
  induction xs with
  | nil =>
    intro css h
    cases css with
    | nil => exact ⟨fun cs h => by simp at h, fun i x h => by simp at h⟩
    | cons c css => exact h.elim
  | cons x xs ih =>
    intro css h
    cases css with
    | nil => exact h.elim
    | cons c css =>
      obtain ⟨⟨h1, h2⟩, h3⟩ := h
      obtain ⟨h4, h5⟩ := ih h3
      refine ⟨fun cs hc => ?_, fun i y hy => ?_⟩
      · rcases List.mem_cons.1 hc with rfl | hc
        · exact h2
        · exact h4 cs hc
      · cases i with
        | zero => simp at hy; subst hy; exact ⟨c, rfl, h1⟩
        | succ i => exact h5 i y (by simpa using hy)
/-- A block's cells, read as a row. -/
theorem C_blk {α : Type} {d : Rd α} {w : World} {b : Nat} {cur : Array Value} {t : TypeId} {xs : List α} (css : List (List Value)) (hb : w.heap[b]? = some (.cells cur t (0, 0))) (hc : cur = css.flatten.toArray) (h : AllK d w xs css) : d.C w (some ⟨b, 0, none⟩) xs := by
  obtain ⟨h1, h2⟩ := h.get
  intro i x hx
  obtain ⟨cs, hcs, hK⟩ := h2 i x hx
  refine ⟨_, cs, rfl, hK, fun j u hu => ?_⟩
  rw [add_plain, blk_cell hb, hc]
  have h3 := flatten_get h1 hcs hu
  simpa [Nat.add_assoc] using h3
def symC (s : Sym) : List Value := [.int .i64 s.name, .int .i64 s.lo, .int .i64 s.hi]
def symO (ss : List Sym) : Obj := .cells (ss.flatMap symC).toArray 83 (0, 0)
theorem symO_C {w : World} {b : Nat} {ss : List Sym} (h : w.heap[b]? = some (symO ss)) : symRd.C w (some ⟨b, 0, none⟩) ss := by
  refine C_blk (ss.map symC) h (by rw [List.flatMap_def]) ?_
  clear h
  induction ss with
  | nil => trivial
  | cons s ss ih => exact ⟨⟨symRd_mk w s, rfl⟩, ih⟩
end Go.Proofs.YtbidpeggdhkahaaGreat

set_option linter.unusedSimpArgs false
set_option linter.unusedVariables false
namespace Go.Proofs.YtbidpeggdhkahaaGreat
open Go.RowKit

set_option maxRecDepth 100000 in
set_option maxHeartbeats 4000000 in
/-- (*ways.Maker).byte. -/
theorem mByte {w : World} {m : MK} (h : MKAt w m) (F : m.Fits) (k : Ky) (s : Sym) (i0 : 0 ≤ k.i) (ij : k.i ≤ k.j) (j1 : k.j ≤ m.t.W.size) (hq : 0 ≤ k.plc.pos) (hq1 : k.plc.pos ≤ 64) :
    Calls Tryz.prog 54 #[.pointer (some ⟨m.p, 0, none⟩), kyV k, .agg #[.int .i64 s.name, .int .i64 s.lo, .int .i64 s.hi]] w (PicksPost w (byteStep m.t.W k s)) := by
  have hW := F.H.F.W32
  have hb0 : Below w.heap.size w ((w.alloc (kyO k)).alloc (.cells #[.int .i64 s.name, .int .i64 s.lo, .int .i64 s.hi] 83)) := below_alloc' (below_alloc' (below_refl w) _) _
  have H0 := Lib.hid (h.mono hb0)
  have x4 := heap_alloc2_old w (kyO k) (.cells #[.int .i64 s.name, .int .i64 s.lo, .int .i64 s.hi] 83)
  have x5 := heap_alloc2_new w (kyO k) (.cells #[.int .i64 s.name, .int .i64 s.lo, .int .i64 s.hi] 83)
  obtain ⟨b0, hb⟩ : ∃ b0, b0 = w.heap.size := ⟨_, rfl⟩
  have hbt := btz_at m.t.W k.i
  have hbr := btz_range m.t.W k.i
  clear h
  unfold kyV
  go_enter Tryz.func54, Tryz.ntmps54
  go_upto_region 1 with fail
  change Code.wp _ _ _ _ ((w.alloc (kyO k)).alloc (.cells #[.int .i64 s.name, .int .i64 s.lo, .int .i64 s.hi] 83))
  rw [← hb] at x4 x5 ⊢
  generalize (w.alloc (kyO k)).alloc (.cells #[.int .i64 s.name, .int .i64 s.lo, .int .i64 s.hi] 83) = w0 at hb0 H0 x4 x5 ⊢
  have K := kyAt_blk x4
  have HX4 := Lib.hid x4
  have HB0 := Lib.hid hb0
  have M1 := Lib.hid H0.out.m1
  have K0 := Lib.hid K.c0
  have K1 := Lib.hid K.c1
  have K2 := Lib.hid K.c2
  have K3 := Lib.hid K.c3
  have K4 := Lib.hid K.c4
  have K5 := Lib.hid K.c5
  have K6 := Lib.hid K.c6
  have S1 := Lib.hid (show w0.cell? ⟨b0 + 1, 1, none⟩ = some (.int .i64 s.lo) by simpa using blk_cell x5 1)
  have S2 := Lib.hid (show w0.cell? ⟨b0 + 1, 2, none⟩ = some (.int .i64 s.hi) by simpa using blk_cell x5 2)
  clear hb0 hb x4 x5 K
  by_cases h1 : k.i = k.j
  · have HV := Lib.hid (show byteStep m.t.W k s = [] by unfold byteStep; rw [if_pos (.inl h1)])
    have d1 : (k.i == k.j) = true := by simpa using h1
    clear h1 hbt
    refine wp_region_below (by kernel_rfl) (by kernel_rfl) ?_
    repeat (first
      | (refine qv_skip (by rfl) ?_; simp only [Act.put, List.setIfInBounds_toArray, List.set_cons_zero, List.set_cons_succ])
      | (refine qv_val' (by rfl) ?_; apply Exists.intro; refine ⟨fun w5 hC => ?_, ?_⟩; (have qqr0 := below_cell hC K5.out; have qqr1 := below_cell hC K6.out; go_simp; rfl); simp only [Act.put, List.setIfInBounds_toArray, List.set_cons_zero, List.set_cons_succ]))
    refine qv_nil ?_
    intro w5 hC
    have HB5 := Lib.hid hC
    clear hC
    go_wp2_with fail
    go_ret
    rw [HV.out]
    exact picksPost_nil (below_then HB0.out HB5.out)
  · have d1 : (k.i == k.j) = false := by simpa using h1
    have hlt : k.i < k.j := by omega
    have b1 : k.i < m.t.W.size := by omega
    have b2 : k.i.toNat < m.t.W.size := by omega
    have hbt' := hbt b2
    have ew : IntKind.i64.wrap (btz m.t.W k.i) = btz m.t.W k.i := IntWalk.i64_in _ (by omega)
    clear hbt
    by_cases h2 : btz m.t.W k.i < s.lo
    · have HV := Lib.hid (show byteStep m.t.W k s = [] by unfold byteStep; rw [if_pos (.inr (.inl h2))])
      have d2 : decide (btz m.t.W k.i < s.lo) = true := by simpa using h2
      clear h1 h2
      refine wp_region_below (by kernel_rfl) (by kernel_rfl) ?_
      repeat (first
        | (refine qv_skip (by rfl) ?_; simp only [Act.put, List.setIfInBounds_toArray, List.set_cons_zero, List.set_cons_succ])
        | (refine qv_val' (by rfl) ?_; apply Exists.intro; refine ⟨fun w5 hC => ?_, ?_⟩; (have qqr0 := below_cell hC K5.out; have qqr1 := below_cell hC K6.out; have qqr2 := below_cell hC M1.out; have qqr3 := below_cell hC S1.out; go_simp; rfl); simp only [Act.put, List.setIfInBounds_toArray, List.set_cons_zero, List.set_cons_succ]))
      refine qv_nil ?_
      intro w5 hC
      have HB5 := Lib.hid hC
      clear hC
      go_wp2_with fail
      go_ret
      rw [HV.out]
      exact picksPost_nil (below_then HB0.out HB5.out)
    · have d2 : decide (btz m.t.W k.i < s.lo) = false := by simpa using h2
      by_cases h3 : s.hi < btz m.t.W k.i
      · have HV := Lib.hid (show byteStep m.t.W k s = [] by unfold byteStep; rw [if_pos (.inr (.inr h3))])
        have d3 : decide (s.hi < btz m.t.W k.i) = true := by simpa using h3
        clear h1 h2 h3
        refine wp_region_below (by kernel_rfl) (by kernel_rfl) ?_
        repeat (first
          | (refine qv_skip (by rfl) ?_; simp only [Act.put, List.setIfInBounds_toArray, List.set_cons_zero, List.set_cons_succ])
          | (refine qv_val' (by rfl) ?_; apply Exists.intro; refine ⟨fun w5 hC => ?_, ?_⟩; (have qqr0 := below_cell hC K5.out; have qqr1 := below_cell hC K6.out; have qqr2 := below_cell hC M1.out; have qqr3 := below_cell hC S1.out; have qqr4 := below_cell hC S2.out; go_simp; rfl); simp only [Act.put, List.setIfInBounds_toArray, List.set_cons_zero, List.set_cons_succ]))
        refine qv_nil ?_
        intro w5 hC
        have HB5 := Lib.hid hC
        clear hC
        go_wp2_with fail
        go_ret
        rw [HV.out]
        exact picksPost_nil (below_then HB0.out HB5.out)
      · have HV := Lib.hid (show byteStep m.t.W k s = [⟨k.i + 1, 0, [seqKey (onP k.plc) (k.i + 1) k.j]⟩] by unfold byteStep; rw [if_neg]; rintro (h | h | h) <;> contradiction)
        have d3 : decide (s.hi < btz m.t.W k.i) = false := by simpa using h3
        clear h1 h2 h3
        refine wp_region_below (by kernel_rfl) (by kernel_rfl) ?_
        repeat (first
          | (refine qv_skip (by rfl) ?_; simp only [Act.put, List.setIfInBounds_toArray, List.set_cons_zero, List.set_cons_succ])
          | (refine qv_val' (by rfl) ?_; apply Exists.intro; refine ⟨fun w5 hC => ?_, ?_⟩; (have qqr0 := below_cell hC K5.out; have qqr1 := below_cell hC K6.out; have qqr2 := below_cell hC M1.out; have qqr3 := below_cell hC S1.out; have qqr4 := below_cell hC S2.out; go_simp; rfl); simp only [Act.put, List.setIfInBounds_toArray, List.set_cons_zero, List.set_cons_succ]))
        refine qv_nil ?_
        intro w5 hC
        have HB5 := Lib.hid hC
        have k2 := below_cell hC K2.out
        have k3 := below_cell hC K3.out
        have k4 := below_cell hC K4.out
        clear hC
        have e1 : IntKind.i64.wrap (k.plc.pos + 1) = k.plc.pos + 1 := IntWalk.i64_in _ (by omega)
        have e2 : IntKind.i64.wrap (k.i + 1) = k.i + 1 := IntWalk.i64_in _ (by omega)
        go_upto_region 5 with fail
        obtain ⟨bp, hbp⟩ : ∃ bp, bp = w5.heap.size := ⟨_, rfl⟩
        have hb6 : Below w5.heap.size w5 (w5.alloc (.cells #[.int .i64 k.plc.rule, .int .i64 k.plc.conj, .int .i64 (k.plc.pos + 1)] 57)) := below_alloc' (below_refl w5) _
        have B6 := heap_alloc_new w5 (.cells #[.int .i64 k.plc.rule, .int .i64 k.plc.conj, .int .i64 (k.plc.pos + 1)] 57)
        rw [← hbp] at B6 ⊢
        generalize w5.alloc (.cells #[.int .i64 k.plc.rule, .int .i64 k.plc.conj, .int .i64 (k.plc.pos + 1)] 57) = w6 at hb6 B6 ⊢
        have kS := Lib.hid (fun (W : World) (hW : Below w6.heap.size w6 W) => (show W.cell? ⟨b0, 5, none⟩ = some (.int .i64 k.i) ∧ W.cell? ⟨b0, 6, none⟩ = some (.int .i64 k.j) ∧ W.cell? ⟨bp, 0, none⟩ = some (.int .i64 k.plc.rule) ∧ W.cell? ⟨bp, 1, none⟩ = some (.int .i64 k.plc.conj) ∧ W.cell? ⟨bp, 2, none⟩ = some (.int .i64 (k.plc.pos + 1)) from
          ⟨by simpa using below_cell hW (below_cell hb6 (below_cell HB5.out K5.out)), by simpa using below_cell hW (below_cell hb6 (below_cell HB5.out K6.out)), blk_cell (blk_below B6 hW) 0, blk_cell (blk_below B6 hW) 1, blk_cell (blk_below B6 hW) 2⟩))
        have HB6 := Lib.hid (below_then HB0.out (below_then HB5.out hb6))
        clear hb6 B6 hbp k2 k3 k4
        go_region_held3 (fun W => W.cell? ⟨b0, 5, none⟩ = some (.int .i64 k.i) ∧ W.cell? ⟨b0, 6, none⟩ = some (.int .i64 k.j) ∧ W.cell? ⟨bp, 0, none⟩ = some (.int .i64 k.plc.rule) ∧ W.cell? ⟨bp, 1, none⟩ = some (.int .i64 k.plc.conj) ∧ W.cell? ⟨bp, 2, none⟩ = some (.int .i64 (k.plc.pos + 1)))
          (exact kS.out _ (by repeat (first | exact HB7.out | exact below_refl _ | apply below_alloc' | apply below_drew')))
          (first
            | (go_at_call 74; refine (wRest (onP k.plc) (k.i + 1) k.j _).mono ?_; rintro e w7 ⟨he, hb7⟩; change e = .returned (.agg #[.int .i64 1, .int .i64 0, .int .i64 k.plc.rule, .int .i64 k.plc.conj, .int .i64 (k.plc.pos + 1), .int .i64 (k.i + 1), .int .i64 k.j]) at he; subst he; have HB7 := Lib.hid (show Below w6.heap.size w6 w7 from below_then (below_drew' (below_refl _)) hb7); clear hb7)
            | fail)
        all_goals
          go_wp2_with fail
          go_ret
          rw [HV.out]
          have g0 := heap_alloc2_old w7 (.cells (kyCs (seqKey (onP k.plc) (k.i + 1) k.j)).toArray 59) (.cells #[.int .i64 (k.i + 1), .int .i64 0, .slice (some ⟨w7.heap.size, 0, none⟩) 1 1] 100)
          have g1 := heap_alloc2_new w7 (.cells (kyCs (seqKey (onP k.plc) (k.i + 1) k.j)).toArray 59) (.cells #[.int .i64 (k.i + 1), .int .i64 0, .slice (some ⟨w7.heap.size, 0, none⟩) 1 1] 100)
          refine ⟨some ⟨w7.heap.size + 1, 0, none⟩, 1, rfl, Nat.le_refl _, by decide, fun w'' hu => ?_, below_then HB6.out (below_then HB7.out (below_alloc' (below_alloc' (below_refl _) _) _))⟩
          have hz : w.heap.size ≤ w7.heap.size := Nat.le_trans HB6.out.size HB7.out.size
          have g0 := (hu.block _ (blk_lt g0) (by omega)).trans g0
          have g1 := (hu.block _ (blk_lt g1) (by omega)).trans g1
          exact C_blk [[.int .i64 (k.i + 1), .int .i64 0, .slice (some ⟨w7.heap.size, 0, none⟩) 1 1]] g1 rfl ⟨⟨stpRd_mk (x := ⟨k.i + 1, 0, [seqKey (onP k.plc) (k.i + 1) k.j]⟩) (Nat.le_refl 1) (by decide) (C_blk [kyCs (seqKey (onP k.plc) (k.i + 1) k.j)] g0 rfl ⟨⟨rfl, rfl⟩, trivial⟩), rfl⟩, trivial⟩
end Go.Proofs.YtbidpeggdhkahaaGreat
