/-
  H8: the checker's on, split.
-/
import Derived.Test.YtfmfoiecphhhiaaH7
set_option linter.unusedSimpArgs false
set_option linter.unusedVariables false
namespace Go.Proofs.Ytfmfoiecphhhiaa
open Go.RowKit

theorem add_zero (a : Addr) : a.add 0 = a := by unfold Addr.add; simp
theorem one_of {α : Type} {l : List α} (h : l.length = 1) : ∃ a, l = [a] := by
  match l, h with
  | [a], _ => exact ⟨a, rfl⟩
theorem two_of {α : Type} {l : List α} (h : l.length = 2) : ∃ a b, l = [a, b] := by
  match l, h with
  | [a, b], _ => exact ⟨a, b, rfl⟩
/-- What shape says, where it says yes. -/
structure Shaped (G : Gram) (W : ByteArray) (x : Nod) : Prop where
  i0 : 0 ≤ x.i
  ij : x.i ≤ x.j
  j1 : x.j ≤ W.size
  plc : x.kind ≠ 0 → plcB G x.plc = true
theorem shaped_of {G : Gram} {W : ByteArray} {x : Nod} (h : shapeB G W x = true) : Shaped G W x := by
  unfold shapeB at h
  simp only [Bool.and_eq_true, decide_eq_true_eq] at h
  refine ⟨h.1.1.1, h.1.1.2, h.1.2, fun hk => ?_⟩
  have h2 := h.2
  rw [if_neg hk] at h2
  simp only [Bool.and_eq_true] at h2
  exact h2.2
theorem plcB_pos {k : CK} (F : k.Fits) {p : Plc} (h : plcB k.G p = true) : 0 ≤ p.pos ∧ p.pos ≤ 1000 := by
  obtain ⟨rn, cn, qn, X, Y, rfl, hX, hY, hq⟩ := plcB_of h
  have := F.may.seq rn X cn Y hX hY
  simp only
  omega

set_option maxRecDepth 100000 in
set_option maxHeartbeats 8000000 in
theorem on_ok {w : World} {k : CK} (h : CkAt w k) (F : k.Fits) {na : Addr} {x : Nod} {A : Option Addr} {c : Nat} (hn : NodAt w na x A c) (hS : Shaped k.G k.W x) (hij : x.i < x.j) (hpl : plcB k.G x.plc = true) (sign : Bool) :
    Calls Try.prog 48 #[.pointer (some ⟨k.p, 0, none⟩), .pointer (some na), .bool sign] w fun e w' => e = .returned (.bool (onB k.C x sign)) ∧ Below w.heap.size w w' := by
  have hW := F.W32
  have i0 := hS.i0
  have j1 := hS.j1
  have hpos := plcB_pos F hpl
  have z9 := hn.c9
  have H := Lib.hid h
  have HN := Lib.hid hn
  clear hS hpl
  by_cases hl : x.picks.length = 1
  · obtain ⟨p, hp⟩ := one_of hl
    rw [hl] at z9
    obtain ⟨pd, A1, c1, eA, hPk⟩ := pck_at hn.pk (i := 0) (x := p) (by rw [hp]; rfl)
    rw [Nat.zero_mul, add_zero] at hPk
    subst eA
    have y2 := hPk.c2
    by_cases hk : p.kids.length = 1
    · obtain ⟨kd, hkd⟩ := one_of hk
      rw [hk] at y2
      obtain ⟨ad, eK, v0⟩ := Rd.C.one hPk.kd (i := 0) (x := kd) (by rw [hkd]; rfl)
      rw [add_zero] at v0
      rw [eK] at y2
      have HO := Lib.hid (show onB k.C x sign = (decide (p.sp = x.i + 1) && decide (p.cj = 0) && isB k.C kd sign (seqKey (behind x) (x.i + 1) x.j)) by unfold onB; rw [hp]; simp only [hkd])
      have y0 := hPk.c0
      have y1 := hPk.c1
      have z6 := hn.c6
      have z7 := hn.c7
      have ew : IntKind.i64.wrap (x.i + 1) = x.i + 1 := IntWalk.i64_in _ (by omega)
      have hpb := hPk.blk
      have hnb := hn.blk
      clear h hn hl hp hk hkd eK hPk
      by_cases h1 : p.sp = x.i + 1
      · have d1 : (p.sp == x.i + 1) = true := by simp [h1]
        by_cases h2 : p.cj = 0
        · rw [h2] at y1
          have HZ := Lib.hid (show onB k.C x sign = isB k.C kd sign (seqKey (behind x) (x.i + 1) x.j) by rw [HO.out, decide_eq_true h1, decide_eq_true h2]; rfl)
          obtain ⟨bl, hbl⟩ : ∃ bl, bl = isB k.C kd sign (seqKey (behind x) (x.i + 1) x.j) := ⟨_, rfl⟩
          have HI := Lib.hid (show ∀ w5, Below w.heap.size w w5 → Calls Try.prog 15 #[.pointer (some ⟨k.p, 0, none⟩), .int .i64 kd, .bool sign, kyV (seqKey (behind x) (x.i + 1) x.j)] w5 fun e w' => e = .returned (.bool bl) ∧ Below w5.heap.size w5 w' from fun w5 hC => by
            rw [hbl]; exact is_kid (H.out.mono hC) F kd sign _)
          have HBL := Lib.hid hbl
          have hz2 := Lib.hid h2
          have hz1 := Lib.hid h1
          clear h1 h2 HO hbl
          go_enter Try.func48, Try.ntmps48
          go_wp2_with fail
          have Y0 := Lib.hid y0
          have Y1 := Lib.hid y1
          have Y2 := Lib.hid y2
          have Z6 := Lib.hid z6
          have Z7 := Lib.hid z7
          have Z9 := Lib.hid z9
          have V0 := Lib.hid v0
          clear y0 y1 y2 z6 z7 z9 v0
          refine wp_region_below (by kernel_rfl) (by kernel_rfl) ?_
          repeat (first
            | (refine qv_skip (by rfl) ?_; simp only [Act.put, List.setIfInBounds_toArray, List.set_cons_zero, List.set_cons_succ])
            | (refine qv_val' (by rfl) ?_; apply Exists.intro; refine ⟨fun w5 hC => ?_, ?_⟩; (have qqr0 := below_cell hC Y0.out; have qqr1 := below_cell hC Y1.out; have qqr2 := below_cell hC Y2.out; have qqr3 := below_cell hC Z6.out; have qqr4 := below_cell hC Z7.out; have qqr5 := below_cell hC V0.out; go_simp; rfl); simp only [Act.put, List.setIfInBounds_toArray, List.set_cons_zero, List.set_cons_succ])
            | (refine qv_call' (by rfl) ?_; apply Exists.intro; apply Exists.intro; apply Exists.intro; refine ⟨fun w5 hC => ?_, fun w5 hC => ?_, ?_⟩; (go_simp; first | rfl | exact ⟨rfl, rfl⟩); (first | (go_at_call 60; exact calls_in hC (behind_any (HN.out.mono hC) hpos.1 hpos.2)) | (go_at_call 58; exact calls_in hC (rest_key (behind x) (x.i + 1) x.j w5)) | (go_at_call 15; exact calls_in hC (HI.out w5 hC))); simp only [Act.put, List.setIfInBounds_toArray, List.set_cons_zero, List.set_cons_succ]))
          refine qv_nil ?_
          intro w5 hC
          have HB5 := Lib.hid hC
          clear hC
          go_wp2_with fail
          go_ret
          exact ⟨by rw [HZ.out, ← HBL.out]; rfl, HB5.out⟩
        · have d2 : (p.cj == 0) = false := by simpa using h2
          have HZ := Lib.hid (show onB k.C x sign = false by rw [HO.out, decide_eq_false h2]; simp)
          clear h1 h2 HO
          go_enter Try.func48, Try.ntmps48
          go_wp2_with fail
          go_quiet (fail)
          go_wp2_with fail
          go_ret
          exact ⟨by rw [HZ.out]; rfl, pw_below_drewN (below_refl _) _⟩
      · have d1 : (p.sp == x.i + 1) = false := by simpa using h1
        have HZ := Lib.hid (show onB k.C x sign = false by rw [HO.out, decide_eq_false h1]; rfl)
        clear h1 HO
        go_enter Try.func48, Try.ntmps48
        go_wp2_with fail
        go_quiet (fail)
        go_wp2_with fail
        go_ret
        exact ⟨by rw [HZ.out]; rfl, pw_below_drewN (below_refl _) _⟩
    · have d2 : ((p.kids.length : Int) != 1) = true := by simp; omega
      have d2' : (p.kids.length != 1) = true := by simpa using hk
      have HZ := Lib.hid (show onB k.C x sign = false by
        unfold onB; rw [hp]
        simp only
        split
        · rename_i h; rw [h] at hk; simp at hk
        · rfl)
      clear hl hp hk h hn hPk
      go_enter Try.func48, Try.ntmps48
      go_wp2_with fail
      go_ret
      exact ⟨by rw [HZ.out]; rfl, below_refl _⟩
  · have d1 : ((x.picks.length : Int) != 1) = true := by simp; omega
    have d1' : (x.picks.length != 1) = true := by simpa using hl
    have HZ := Lib.hid (show onB k.C x sign = false by
      unfold onB
      split
      · rename_i p h; rw [h] at hl; simp at hl
      · rfl)
    clear hl h hn
    go_enter Try.func48, Try.ntmps48
    go_wp2_with fail
    go_ret
    exact ⟨by rw [HZ.out]; rfl, below_refl _⟩

end Go.Proofs.Ytfmfoiecphhhiaa
