/-
  H8b: the checker's split..
-/
import Derived.Test.YtfmfoiecphhhiaaH8
set_option linter.unusedSimpArgs false
set_option linter.unusedVariables false
namespace Go.Proofs.Ytfmfoiecphhhiaa
open Go.RowKit

set_option maxRecDepth 100000 in
set_option maxHeartbeats 8000000 in
theorem split_ok {w : World} {k : CK} (h : CkAt w k) (F : k.Fits) {na : Addr} {x : Nod} {A : Option Addr} {c : Nat} (hn : NodAt w na x A c) (hpl : plcB k.G x.plc = true) {pa : Addr} {p : Pck} {Ap : Option Addr} {cp : Nat} (hp : PckAt w pa p Ap cp) (name : Int) :
    Calls Try.prog 49 #[.pointer (some ⟨k.p, 0, none⟩), .pointer (some na), .pointer (some pa), .int .i64 name] w fun e w' => e = .returned (.bool (splitOK k.C x name p)) ∧ Below w.heap.size w w' := by
  have hpos := plcB_pos F hpl
  have y0 := hp.c0
  have y2 := hp.c2
  have z6 := hn.c6
  have z7 := hn.c7
  have hpb := hp.blk
  have hnb := hn.blk
  have H := Lib.hid h
  have HN := Lib.hid hn
  have HP := Lib.hid hp
  clear h hn hpl hp
  have Y0 := Lib.hid y0
  have Z6 := Lib.hid z6
  have Z7 := Lib.hid z7
  clear y0 z6 z7
  by_cases h1 : x.i ≤ p.sp
  · have d1 : decide (x.i ≤ p.sp) = true := by simpa using h1
    by_cases h2 : p.sp ≤ x.j
    · have d2 : decide (p.sp ≤ x.j) = true := by simpa using h2
      by_cases hk : p.kids.length = 2
      · obtain ⟨ka, kb, hkd⟩ := two_of hk
        rw [hk] at y2
        obtain ⟨ad, eK, v0⟩ := Rd.C.one HP.out.kd (i := 0) (x := ka) (by rw [hkd]; rfl)
        obtain ⟨ad', eK', v1⟩ := Rd.C.one HP.out.kd (i := 1) (x := kb) (by rw [hkd]; rfl)
        rw [eK] at eK'
        obtain rfl : ad = ad' := by injection eK'
        rw [add_zero] at v0
        rw [show ad.add 1 = ⟨ad.block, ad.off + 1, none⟩ by unfold Addr.add; simp] at v1
        rw [eK] at y2
        have HO := Lib.hid (show splitOK k.C x name p = (isB k.C ka true (nameKey name x.i p.sp) && isB k.C kb true (seqKey (behind x) p.sp x.j)) by unfold splitOK; rw [d1, d2, hkd]; rfl)
        obtain ⟨ba, hba⟩ : ∃ bl, bl = isB k.C ka true (nameKey name x.i p.sp) := ⟨_, rfl⟩
        obtain ⟨bb, hbb⟩ : ∃ bl, bl = isB k.C kb true (seqKey (behind x) p.sp x.j) := ⟨_, rfl⟩
        have HA := Lib.hid (show ∀ w5, Below w.heap.size w w5 → Calls Try.prog 15 #[.pointer (some ⟨k.p, 0, none⟩), .int .i64 ka, .bool true, kyV (nameKey name x.i p.sp)] w5 fun e w' => e = .returned (.bool ba) ∧ Below w5.heap.size w5 w' from fun w5 hC => by
          rw [hba]; exact is_kid (H.out.mono hC) F ka true _)
        have HB := Lib.hid (show ∀ w5, Below w.heap.size w w5 → Calls Try.prog 15 #[.pointer (some ⟨k.p, 0, none⟩), .int .i64 kb, .bool true, kyV (seqKey (behind x) p.sp x.j)] w5 fun e w' => e = .returned (.bool bb) ∧ Below w5.heap.size w5 w' from fun w5 hC => by
          rw [hbb]; exact is_kid (H.out.mono hC) F kb true _)
        have HV := Lib.hid (show splitOK k.C x name p = (ba && bb) by rw [HO.out, hba, hbb])
        have Y2 := Lib.hid y2
        have V0 := Lib.hid v0
        have V1 := Lib.hid v1
        clear h1 h2 hk hkd hba hbb HO eK eK' y2 v0 v1
        cases ba with
        | false =>
          go_enter Try.func49, Try.ntmps49
          go_wp2_with fail
          refine wp_region_below (by kernel_rfl) (by kernel_rfl) ?_
          repeat (first
            | (refine qv_skip (by rfl) ?_; simp only [Act.put, List.setIfInBounds_toArray, List.set_cons_zero, List.set_cons_succ])
            | (refine qv_val' (by rfl) ?_; apply Exists.intro; refine ⟨fun w5 hC => ?_, ?_⟩; (have qqr0 := below_cell hC Y0.out; have qqr1 := below_cell hC Y2.out; have qqr2 := below_cell hC Z6.out; have qqr3 := below_cell hC Z7.out; have qqr4 := below_cell hC V0.out; have qqr5 := below_cell hC V1.out; go_simp; rfl); simp only [Act.put, List.setIfInBounds_toArray, List.set_cons_zero, List.set_cons_succ])
            | (refine qv_call' (by rfl) ?_; apply Exists.intro; apply Exists.intro; apply Exists.intro; refine ⟨fun w5 hC => ?_, fun w5 hC => ?_, ?_⟩; (go_simp; first | rfl | exact ⟨rfl, rfl⟩); (first | (go_at_call 16; exact calls_in hC (named_key name x.i p.sp w5)) | (go_at_call 15; with_reducible exact calls_in hC (HA.out w5 hC))); simp only [Act.put, List.setIfInBounds_toArray, List.set_cons_zero, List.set_cons_succ]))
          refine qv_nil ?_
          intro w5 hC
          have HB5 := Lib.hid hC
          clear hC
          go_wp2_with fail
          go_ret
          exact ⟨by rw [HV.out]; rfl, HB5.out⟩
        | true =>
          go_enter Try.func49, Try.ntmps49
          go_wp2_with fail
          refine wp_region_below (by kernel_rfl) (by kernel_rfl) ?_
          repeat (first
            | (refine qv_skip (by rfl) ?_; simp only [Act.put, List.setIfInBounds_toArray, List.set_cons_zero, List.set_cons_succ])
            | (refine qv_val' (by rfl) ?_; apply Exists.intro; refine ⟨fun w5 hC => ?_, ?_⟩; (have qqr0 := below_cell hC Y0.out; have qqr1 := below_cell hC Y2.out; have qqr2 := below_cell hC Z6.out; have qqr3 := below_cell hC Z7.out; have qqr4 := below_cell hC V0.out; have qqr5 := below_cell hC V1.out; go_simp; rfl); simp only [Act.put, List.setIfInBounds_toArray, List.set_cons_zero, List.set_cons_succ])
            | (refine qv_call' (by rfl) ?_; apply Exists.intro; apply Exists.intro; apply Exists.intro; refine ⟨fun w5 hC => ?_, fun w5 hC => ?_, ?_⟩; (go_simp; first | rfl | exact ⟨rfl, rfl⟩); (first | (go_at_call 16; exact calls_in hC (named_key name x.i p.sp w5)) | (go_at_call 60; exact calls_in hC (behind_any (HN.out.mono hC) hpos.1 hpos.2)) | (go_at_call 58; exact calls_in hC (rest_key (behind x) p.sp x.j w5)) | (go_at_call 15; with_reducible exact calls_in hC (HA.out w5 hC)) | (go_at_call 15; with_reducible exact calls_in hC (HB.out w5 hC))); simp only [Act.put, List.setIfInBounds_toArray, List.set_cons_zero, List.set_cons_succ]))
          refine qv_nil ?_
          intro w5 hC
          have HB5 := Lib.hid hC
          clear hC
          go_wp2_with fail
          go_ret
          exact ⟨by rw [HV.out]; rfl, HB5.out⟩
      · have d3 : ((p.kids.length : Int) == 2) = false := by simp; omega
        have d3' : (p.kids.length == 2) = false := by simpa using hk
        have HZ := Lib.hid (show splitOK k.C x name p = false by
          unfold splitOK
          rw [d1, d2]
          simp only [Bool.true_and]
          split
          · rename_i a b h; rw [h] at hk; simp at hk
          · rfl)
        clear h1 h2 hk
        have Y2 := Lib.hid y2
        clear y2
        go_enter Try.func49, Try.ntmps49
        go_wp2_with fail
        refine wp_region_below (by kernel_rfl) (by kernel_rfl) ?_
        repeat (first
          | (refine qv_skip (by rfl) ?_; simp only [Act.put, List.setIfInBounds_toArray, List.set_cons_zero, List.set_cons_succ])
          | (refine qv_val' (by rfl) ?_; apply Exists.intro; refine ⟨fun w5 hC => ?_, ?_⟩; (have qqr0 := below_cell hC Y0.out; have qqr1 := below_cell hC Y2.out; have qqr2 := below_cell hC Z6.out; have qqr3 := below_cell hC Z7.out; go_simp; rfl); simp only [Act.put, List.setIfInBounds_toArray, List.set_cons_zero, List.set_cons_succ]))
        refine qv_nil ?_
        intro w5 hC
        have HB5 := Lib.hid hC
        clear hC
        go_wp2_with fail
        go_ret
        exact ⟨by rw [HZ.out]; rfl, HB5.out⟩
    · have d2 : decide (p.sp ≤ x.j) = false := by simpa using h2
      have HZ := Lib.hid (show splitOK k.C x name p = false by unfold splitOK; rw [d2]; simp)
      clear h1 h2
      have Y2 := Lib.hid y2
      clear y2
      go_enter Try.func49, Try.ntmps49
      go_wp2_with fail
      refine wp_region_below (by kernel_rfl) (by kernel_rfl) ?_
      repeat (first
        | (refine qv_skip (by rfl) ?_; simp only [Act.put, List.setIfInBounds_toArray, List.set_cons_zero, List.set_cons_succ])
        | (refine qv_val' (by rfl) ?_; apply Exists.intro; refine ⟨fun w5 hC => ?_, ?_⟩; (have qqr0 := below_cell hC Y0.out; have qqr1 := below_cell hC Y2.out; have qqr2 := below_cell hC Z6.out; have qqr3 := below_cell hC Z7.out; go_simp; rfl); simp only [Act.put, List.setIfInBounds_toArray, List.set_cons_zero, List.set_cons_succ]))
      refine qv_nil ?_
      intro w5 hC
      have HB5 := Lib.hid hC
      clear hC
      go_wp2_with fail
      go_ret
      exact ⟨by rw [HZ.out]; rfl, HB5.out⟩
  · have d1 : decide (x.i ≤ p.sp) = false := by simpa using h1
    have HZ := Lib.hid (show splitOK k.C x name p = false by unfold splitOK; rw [d1]; rfl)
    clear h1
    have Y2 := Lib.hid y2
    clear y2
    go_enter Try.func49, Try.ntmps49
    go_wp2_with fail
    refine wp_region_below (by kernel_rfl) (by kernel_rfl) ?_
    repeat (first
      | (refine qv_skip (by rfl) ?_; simp only [Act.put, List.setIfInBounds_toArray, List.set_cons_zero, List.set_cons_succ])
      | (refine qv_val' (by rfl) ?_; apply Exists.intro; refine ⟨fun w5 hC => ?_, ?_⟩; (have qqr0 := below_cell hC Y0.out; have qqr1 := below_cell hC Y2.out; have qqr2 := below_cell hC Z6.out; have qqr3 := below_cell hC Z7.out; go_simp; rfl); simp only [Act.put, List.setIfInBounds_toArray, List.set_cons_zero, List.set_cons_succ]))
    refine qv_nil ?_
    intro w5 hC
    have HB5 := Lib.hid hC
    clear hC
    go_wp2_with fail
    go_ret
    exact ⟨by rw [HZ.out]; rfl, HB5.out⟩
end Go.Proofs.Ytfmfoiecphhhiaa
