/-
  I6: (*ways.Maker).chosen, byte.
-/
import Derived.Test.YtbidpeggdhkahaaI5
set_option linter.unusedSimpArgs false
set_option linter.unusedVariables false
namespace Go.Proofs.Ytbidpeggdhkahaa
open Go.RowKit

/-- What hands back steps leaves: they lie apart from the blocks below lo. -/
def PicksL (lo : Nat) (w : World) (ss : List Stp) (e : Ending) (w' : World) : Prop :=
  ∃ A c, e = .returned (.slice A ss.length c) ∧ ss.length ≤ c ∧ c ≤ 9223372036854775807 ∧ (∀ w'', Upd (fun b => b < lo) w' w'' → stpRd.C w'' A ss) ∧ Below w.heap.size w w'
def PicksPost (w : World) (ss : List Stp) (e : Ending) (w' : World) : Prop := PicksL w.heap.size w ss e w'
theorem picksPost_nil {w w' : World} (h : Below w.heap.size w w') : PicksPost w [] (.returned (.slice none 0 0)) w' := ⟨none, 0, rfl, Nat.le_refl _, by decide, fun _ _ => Rd.C.nil _ _ _, h⟩
theorem upd_low {lo lo' : Nat} {w w' : World} (h : Upd (fun b => b < lo) w w') (hl : lo ≤ lo') : Upd (fun b => b < lo') w w' := h.mono (fun b hb => Nat.lt_of_lt_of_le hb hl)
/-- An owned slice lies apart from what stood before. -/
theorem own_far {α : Type} {d : Rd α} {e : TypeId} {base lo : Nat} {w : World} {A : Option Addr} {n c : Nat} {xs : List α} (h : Own d e base w (.slice A n c) xs) (hl : lo ≤ base) : ∀ w'', Upd (fun b => b < lo) w w'' → d.C w'' A xs := fun w'' hu => by
  obtain ⟨A', c', e', _, _, hC⟩ := (h.upd hu (fun b hb => Nat.lt_of_lt_of_le hb hl)).shape
  injection e' with e' _ _
  rw [e']; exact hC

set_option maxRecDepth 100000 in
set_option maxHeartbeats 2000000 in
/-- The closure of 'chosen'. -/
theorem chosen1 {w : World} {m : MK} (h : MKAt w m) (F : m.Fits) {b3 b5 : Nat} {rank : Int} (c3 : w.cell? ⟨b3, 0, none⟩ = some (.pointer (some ⟨m.p, 0, none⟩))) (c5 : w.cell? ⟨b5, 0, none⟩ = some (.int .i64 rank)) (x : Stp) {A : Option Addr} {c : Nat} (h1 : x.kids.length ≤ c) (h2 : c ≤ 9223372036854775807) (hk : kyRd.C w A x.kids) :
    Calls Try.prog 40 #[.agg #[.int .i64 x.sp, .int .i64 x.cj, .slice A x.kids.length c], .pointer (some ⟨b3, 0, none⟩), .pointer (some ⟨b5, 0, none⟩)] w fun e w' => e = .returned (.bool (lessKB m.R x.kids rank)) ∧ Below w.heap.size w w' := by
  have hb0 : Below w.heap.size w (w.alloc (.cells #[.int .i64 x.sp, .int .i64 x.cj, .slice A x.kids.length c] 77)) := below_alloc' (below_refl w) _
  have H0 := Lib.hid (h.mono hb0)
  have c3 := below_cell hb0 c3
  have c5 := below_cell hb0 c5
  have KD := Lib.hid (hk.mono hb0)
  have B0 := heap_alloc_new w (.cells #[.int .i64 x.sp, .int .i64 x.cj, .slice A x.kids.length c] 77)
  obtain ⟨b0, hb⟩ : ∃ b0, b0 = w.heap.size := ⟨_, rfl⟩
  go_enter Try.func40, Try.ntmps40
  go_upto_region 1 with fail
  change Code.wp _ _ _ _ (w.alloc (.cells #[.int .i64 x.sp, .int .i64 x.cj, .slice A x.kids.length c] 77))
  rw [← hb] at B0 ⊢
  generalize w.alloc (.cells #[.int .i64 x.sp, .int .i64 x.cj, .slice A x.kids.length c] 77) = w0 at hb0 H0 B0 c3 c5 KD ⊢
  have HB0 := Lib.hid hb0
  have k0 : w0.cell? ⟨b0, 0, none⟩ = some (.int .i64 x.sp) := blk_cell B0 0
  have k1 : w0.cell? ⟨b0, 1, none⟩ = some (.int .i64 x.cj) := by simpa using blk_cell B0 1
  have k2 : w0.cell? ⟨b0, 2, none⟩ = some (.slice A x.kids.length c) := by simpa using blk_cell B0 2
  have CL := Lib.hid (mLesser H0.out F KD.out h1 h2 rank)
  clear hb0 B0 hb h hk
  go_wp2_with (go_at_call 41; refine CL.out.mono ?_; rintro e w' ⟨rfl, hb'⟩; have HB' := Lib.hid hb'; clear hb')
  go_ret
  exact ⟨rfl, below_then HB0.out HB'.out⟩

theorem find_idxP {α : Type} {p : α → Bool} {xs : List α} {x0 : α} (h0 : x0 ∈ xs) (hp : p x0 = true) : ∃ (k : Nat) (x : α), idxP p xs = k ∧ k < xs.length ∧ xs[k]? = some x ∧ xs.find? p = some x := by
  cases hf : xs.findIdx? p with
  | none =>
    rw [List.findIdx?_eq_none_iff] at hf
    rw [hf x0 h0] at hp; cases hp
  | some k =>
    obtain ⟨hk, h1, h2⟩ := List.findIdx?_eq_some_iff_getElem.1 hf
    refine ⟨k, xs[k], by unfold idxP; rw [hf], hk, List.getElem?_eq_getElem hk, ?_⟩
    rw [List.find?_eq_some_iff_getElem]
    exact ⟨h1, k, hk, rfl, fun j hj => by simpa using h2 j hj⟩

set_option maxRecDepth 100000 in
set_option maxHeartbeats 2000000 in
/-- (*ways.Maker).chosen. -/
theorem mChosen {w : World} {m : MK} (h : MKAt w m) (F : m.Fits) {ss : List Stp} {A : Option Addr} {c : Nat} {lo : Nat} (hCf : ∀ w'', Upd (fun b => b < lo) w w'' → stpRd.C w'' A ss) (h1 : ss.length ≤ c) (h2 : c ≤ 9223372036854775807) (rank : Int) (hx : m.full = false → ∃ s ∈ ss, lessKB m.R s.kids rank = true) :
    Calls Try.prog 32 #[.pointer (some ⟨m.p, 0, none⟩), .slice A ss.length c, .int .i64 rank] w (PicksL lo w (chosenB m.R m.full ss rank)) := by
  have hC := hCf w (Upd.refl _ _)
  have HCF := Lib.hid hCf
  clear hCf
  have hb0 : Below w.heap.size w ((w.alloc (.cells #[.pointer (some ⟨m.p, 0, none⟩)] 51)).alloc (.cells #[.int .i64 rank] 3)) := below_alloc' (below_alloc' (below_refl w) _) _
  have H0 := Lib.hid (h.mono hb0)
  have C0 := Lib.hid (hC.mono hb0)
  have x3 := heap_alloc2_old w (.cells #[.pointer (some ⟨m.p, 0, none⟩)] 51) (.cells #[.int .i64 rank] 3)
  have x5 := heap_alloc2_new w (.cells #[.pointer (some ⟨m.p, 0, none⟩)] 51) (.cells #[.int .i64 rank] 3)
  obtain ⟨b0, hb⟩ : ∃ b0, b0 = w.heap.size := ⟨_, rfl⟩
  have m3 := h.m3
  cases hf : m.full with
  | true =>
    rw [hf] at m3
    have m3' := below_cell hb0 m3
    clear h hC hx
    go_enter Try.func32, Try.ntmps32
    go_upto_region 1 with fail
    change Code.wp _ _ _ _ ((w.alloc (.cells #[.pointer (some ⟨m.p, 0, none⟩)] 51)).alloc (.cells #[.int .i64 rank] 3))
    rw [← hb] at x3 x5 ⊢
    generalize (w.alloc (.cells #[.pointer (some ⟨m.p, 0, none⟩)] 51)).alloc (.cells #[.int .i64 rank] 3) = w0 at hb0 H0 C0 x3 x5 m3' ⊢
    have y0 : w0.cell? ⟨b0, 0, none⟩ = some (.pointer (some ⟨m.p, 0, none⟩)) := blk_cell x3 0
    have HB0 := Lib.hid hb0
    clear hb0 hb x3 x5 m3
    go_wp2_with fail
    go_ret
    exact ⟨A, c, rfl, h1, h2, fun w'' hu => HCF.out _ ((Upd.of_below HB0.out).trans hu), HB0.out⟩
  | false =>
    rw [hf] at m3
    have m3' := below_cell hb0 m3
    obtain ⟨s0, hs0, hl0⟩ := hx hf
    obtain ⟨k, x, hi, hk, hkx, hfind⟩ := find_idxP (p := fun s : Stp => lessKB m.R s.kids rank) hs0 hl0
    have HV := Lib.hid (show chosenB m.R false ss rank = [x] by unfold chosenB; rw [if_neg (by decide), hfind]; rfl)
    have HI := Lib.hid hi
    obtain ⟨ad, -, -, rfl, -⟩ := stp_at hC hkx
    have HS := Lib.hid (show ∀ w', Upd (fun b => b < lo) w w' → stpRd.C w' (some (ad.add (k * 3))) [x] from fun w' hw => by
      have := Rd.C.sub (HCF.out w' hw) k 1
      rw [show (ss.drop k).take 1 = [x] by rw [List.drop_eq_getElem_cons hk]; rw [List.getElem?_eq_getElem hk] at hkx; injection hkx with hkx; rw [hkx]; rfl] at this
      exact this)
    clear h hC hx hs0 hl0 hi hkx hfind
    go_enter Try.func32, Try.ntmps32
    go_upto_region 1 with fail
    change Code.wp _ _ _ _ ((w.alloc (.cells #[.pointer (some ⟨m.p, 0, none⟩)] 51)).alloc (.cells #[.int .i64 rank] 3))
    rw [← hb] at x3 x5 ⊢
    generalize (w.alloc (.cells #[.pointer (some ⟨m.p, 0, none⟩)] 51)).alloc (.cells #[.int .i64 rank] 3) = w0 at hb0 H0 C0 x3 x5 m3' ⊢
    have y0 : w0.cell? ⟨b0, 0, none⟩ = some (.pointer (some ⟨m.p, 0, none⟩)) := blk_cell x3 0
    have CL := Lib.hid (idx_steps (g := 40) (lb := #[.pointer (some ⟨b0, 0, none⟩), .pointer (some ⟨b0 + 1, 0, none⟩)]) (fun s : Stp => lessKB m.R s.kids rank) eg_chosen C0.out h1 h2 (fun W x A1 c1 hW k1 k2 k3 => chosen1 (H0.out.mono hW) F (by simpa using blk_cell (blk_below x3 hW) 0) (by simpa using blk_cell (blk_below x5 hW) 0) x k1 k2 k3))
    rw [HI.out] at CL
    have HB0 := Lib.hid hb0
    clear hb0 hb x3 x5 m3 HI
    have e0 : (0 : Int) ≤ (k : Int) := by omega
    have e1 : (k : Int) ≤ (k : Int) + 1 := by omega
    have e2 : (k : Int) + 1 ≤ (c : Int) := by omega
    have e3 : IntKind.i64.wrap ((k : Int) + 1) = (k : Int) + 1 := IntWalk.i64_in _ (by omega)
    go_wp2_with (first
      | (go_at_call 39; refine CL.out.mono ?_; rintro e w' ⟨rfl, hb⟩; have HB := Lib.hid hb; clear hb)
      | fail)
    go_ret
    rw [HV.out]
    refine ⟨some (ad.add (k * 3)), c - k, ?_, by simp; omega, by omega, fun w'' hu => HS.out _ ((Upd.of_below (below_then HB0.out HB.out)).trans hu), below_then HB0.out HB.out⟩
    simp
end Go.Proofs.Ytbidpeggdhkahaa
