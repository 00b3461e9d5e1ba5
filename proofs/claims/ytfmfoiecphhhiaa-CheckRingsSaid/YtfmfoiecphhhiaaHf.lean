/-
  Hf: the checker's node, taken.
-/
import Derived.Test.YtfmfoiecphhhiaaHb
import Derived.Test.YtfmfoiecphhhiaaHc
import Derived.Test.YtfmfoiecphhhiaaHd
set_option linter.unusedSimpArgs false
set_option linter.unusedVariables false
namespace Go.Proofs.Ytfmfoiecphhhiaa
open Go.RowKit

set_option maxRecDepth 100000 in
set_option maxHeartbeats 8000000 in
theorem node_ok {w : World} {k : CK} (h : CkAt w k) (F : k.Fits) {na : Addr} {x : Nod} {A : Option Addr} {c : Nat} (hn : NodAt w na x A c) (hk : kidsIn k.C x = true) :
    Calls Try.prog 17 #[.pointer (some ⟨k.p, 0, none⟩), .pointer (some na)] w fun e w' => e = .returned (.bool (nodeB k.C k.G k.W x)) ∧ Below w.heap.size w w' := by
  have H := Lib.hid h
  have HN := Lib.hid hn
  have HK := Lib.hid hk
  have HSH := Lib.hid (shape_any h F hn)
  clear h hn hk
  cases hs : shapeB k.G k.W x with
  | false =>
    have HZ := Lib.hid (show nodeB k.C k.G k.W x = false by unfold nodeB; rw [hs]; rfl)
    rw [hs] at HSH
    clear hs
    go_enter Try.func17, Try.ntmps17
    go_wp2_with (first | (go_at_call 25; refine HSH.out.mono ?_; rintro e w1 ⟨rfl, hb1⟩; have HB1 := Lib.hid hb1; clear hb1) | fail)
    go_ret
    exact ⟨by rw [HZ.out]; rfl, HB1.out⟩
  | true =>
    have HS := Lib.hid (shaped_of hs)
    rw [hs] at HSH
    have HV := Lib.hid (show nodeB k.C k.G k.W x = (if x.kind = 0 then (if x.sign then hasOK k.C k.G x else lacksB k.C k.G x) else (if x.sign then goesB k.C k.G k.W x else stopsB k.C k.G k.W x)) by unfold nodeB; rw [hs]; rfl)
    clear hs
    by_cases h1 : x.kind = 0
    · have HV := Lib.hid (HV.out.trans (if_pos h1))
      have HKI := Lib.hid h1
      clear h1
      cases hsg : x.sign with
      | true =>
        have HSG := Lib.hid hsg
        have HV := Lib.hid (show nodeB k.C k.G k.W x = hasOK k.C k.G x by rw [HV.out, hsg]; rfl)
        clear hsg
        go_enter Try.func17, Try.ntmps17
        go_wp2_with (first
          | (go_at_call 25; refine HSH.out.mono ?_; rintro e w1 ⟨rfl, hb1⟩; have HB1 := Lib.hid hb1; have hN1 := HN.out.mono hb1; have z0 := hN1.c0; have z1 := hN1.c1; rw [HSG.out] at z0; rw [HKI.out] at z1; have HC := Lib.hid (has_ok (H.out.mono hb1) F hN1 HK.out); clear hb1 hN1)
          | (go_at_call 26; refine HC.out.mono ?_; rintro e w2 ⟨rfl, hb2⟩; have HB2 := Lib.hid (below_trans HB1.out hb2); clear hb2) | fail)
        go_ret
        exact ⟨by rw [HV.out]; rfl, HB2.out⟩
      | false =>
        have HSG := Lib.hid hsg
        have HV := Lib.hid (show nodeB k.C k.G k.W x = lacksB k.C k.G x by rw [HV.out, hsg]; rfl)
        clear hsg
        go_enter Try.func17, Try.ntmps17
        go_wp2_with (first
          | (go_at_call 25; refine HSH.out.mono ?_; rintro e w1 ⟨rfl, hb1⟩; have HB1 := Lib.hid hb1; have hN1 := HN.out.mono hb1; have z0 := hN1.c0; have z1 := hN1.c1; rw [HSG.out] at z0; rw [HKI.out] at z1; have HC := Lib.hid (lacks_ok (H.out.mono hb1) F hN1); clear hb1 hN1)
          | (go_at_call 27; refine HC.out.mono ?_; rintro e w2 ⟨rfl, hb2⟩; have HB2 := Lib.hid (below_trans HB1.out hb2); clear hb2) | fail)
        go_ret
        exact ⟨by rw [HV.out]; rfl, HB2.out⟩
    · have HV := Lib.hid (HV.out.trans (if_neg h1))
      have d1 : (x.kind == 0) = false := by simpa using h1
      have HPL := Lib.hid (HS.out.plc h1)
      clear h1
      cases hsg : x.sign with
      | true =>
        have HSG := Lib.hid hsg
        have HV := Lib.hid (show nodeB k.C k.G k.W x = goesB k.C k.G k.W x by rw [HV.out, hsg]; rfl)
        clear hsg
        go_enter Try.func17, Try.ntmps17
        go_wp2_with (first
          | (go_at_call 25; refine HSH.out.mono ?_; rintro e w1 ⟨rfl, hb1⟩; have HB1 := Lib.hid hb1; have hN1 := HN.out.mono hb1; have z0 := hN1.c0; have z1 := hN1.c1; rw [HSG.out] at z0; have HC := Lib.hid (goes_ok (H.out.mono hb1) F hN1 HK.out HS.out HPL.out); clear hb1 hN1)
          | (go_at_call 28; refine HC.out.mono ?_; rintro e w2 ⟨rfl, hb2⟩; have HB2 := Lib.hid (below_trans HB1.out hb2); clear hb2) | fail)
        go_ret
        exact ⟨by rw [HV.out]; rfl, HB2.out⟩
      | false =>
        have HSG := Lib.hid hsg
        have HV := Lib.hid (show nodeB k.C k.G k.W x = stopsB k.C k.G k.W x by rw [HV.out, hsg]; rfl)
        clear hsg
        go_enter Try.func17, Try.ntmps17
        go_wp2_with (first
          | (go_at_call 25; refine HSH.out.mono ?_; rintro e w1 ⟨rfl, hb1⟩; have HB1 := Lib.hid hb1; have hN1 := HN.out.mono hb1; have z0 := hN1.c0; have z1 := hN1.c1; rw [HSG.out] at z0; have HC := Lib.hid (stops_ok (H.out.mono hb1) F hN1 HS.out HPL.out); clear hb1 hN1)
          | (go_at_call 29; refine HC.out.mono ?_; rintro e w2 ⟨rfl, hb2⟩; have HB2 := Lib.hid (below_trans HB1.out hb2); clear hb2) | fail)
        go_ret
        exact ⟨by rw [HV.out]; rfl, HB2.out⟩

set_option maxRecDepth 100000 in
set_option maxHeartbeats 8000000 in
theorem taken_ok {w : World} {k : CK} (h : CkAt w k) (F : k.Fits) (hwf : ∀ x ∈ k.C.nodes, KyWf x.ky) :
    Calls Try.prog 11 #[.pointer (some ⟨k.p, 0, none⟩)] w fun e w' => e = .returned (.bool (takenB k.C k.G k.W)) ∧ Below w.heap.size w w' := by
  have hN := F.N
  have hW := F.W32
  have P0 := Lib.hid h.p0
  have P1 := Lib.hid h.p1
  have P2 := Lib.hid h.p2
  have G0 := Lib.hid h.g0
  have C0 := Lib.hid h.c0
  have H := Lib.hid h
  obtain ⟨bk, hbk⟩ : ∃ b, b = kidsB k.C := ⟨_, rfl⟩
  have HKC := Lib.hid (show ∀ w5, Below w.heap.size w w5 → Calls Try.prog 14 #[.pointer (some ⟨k.p, 0, none⟩)] w5 fun e w' => e = .returned (.bool bk) ∧ Below w5.heap.size w5 w' from fun w5 hC => by rw [hbk]; exact kids_ok (h.mono hC) F hwf)
  obtain ⟨ba, hba⟩ : ∃ b, b = isB k.C k.C.root true (nameKey k.G.start 0 k.W.size) := ⟨_, rfl⟩
  obtain ⟨bb, hbb⟩ : ∃ b, b = isB k.C k.C.root false (nameKey k.G.start 0 k.W.size) := ⟨_, rfl⟩
  have HIA := Lib.hid (show ∀ w5, Below w.heap.size w w5 → Calls Try.prog 15 #[.pointer (some ⟨k.p, 0, none⟩), .int .i64 k.C.root, .bool true, kyV (nameKey k.G.start 0 k.W.size)] w5 fun e w' => e = .returned (.bool ba) ∧ Below w5.heap.size w5 w' from fun w5 hC => by rw [hba]; exact is_kid (h.mono hC) F _ true _)
  have HIB := Lib.hid (show ∀ w5, Below w.heap.size w w5 → Calls Try.prog 15 #[.pointer (some ⟨k.p, 0, none⟩), .int .i64 k.C.root, .bool false, kyV (nameKey k.G.start 0 k.W.size)] w5 fun e w' => e = .returned (.bool bb) ∧ Below w5.heap.size w5 w' from fun w5 hC => by rw [hbb]; exact is_kid (h.mono hC) F _ false _)
  have HV := Lib.hid (show takenB k.C k.G k.W = (bk && (ba || bb) && k.C.nodes.all (nodeB k.C k.G k.W)) by unfold takenB rootB; rw [hbk, hba, hbb])
  have HBK := Lib.hid hbk
  clear h hwf hbk hba hbb
  cases bk with
  | false =>
    go_enter Try.func11, Try.ntmps11
    go_wp2_with fail
    refine wp_region_below (by kernel_rfl) (by kernel_rfl) ?_
    repeat (first
      | (refine qv_skip (by rfl) ?_; simp only [Act.put, List.setIfInBounds_toArray, List.set_cons_zero, List.set_cons_succ])
      | (refine qv_val' (by rfl) ?_; apply Exists.intro; refine ⟨fun w5 hC => ?_, ?_⟩; (have qqr0 := below_cell hC P0.out; have qqr1 := below_cell hC P1.out; have qqr2 := below_cell hC P2.out; have qqr3 := below_cell hC G0.out; have qqr4 := below_cell hC C0.out; go_simp; rfl); simp only [Act.put, List.setIfInBounds_toArray, List.set_cons_zero, List.set_cons_succ])
      | (refine qv_call' (by rfl) ?_; apply Exists.intro; apply Exists.intro; apply Exists.intro; refine ⟨fun w5 hC => ?_, fun w5 hC => ?_, ?_⟩; (go_simp; first | rfl | exact ⟨rfl, rfl⟩); (first | (go_at_call 14; exact calls_in hC (HKC.out w5 hC))); simp only [Act.put, List.setIfInBounds_toArray, List.set_cons_zero, List.set_cons_succ]))
    refine qv_nil ?_
    intro w5 hC
    have HB5 := Lib.hid hC
    clear hC
    go_wp2_with fail
    go_ret
    exact ⟨by rw [HV.out]; rfl, HB5.out⟩
  | true =>
    by_cases hr : (ba || bb) = true
    · have HT := Lib.hid (show takenB k.C k.G k.W = k.C.nodes.all (nodeB k.C k.G k.W) by rw [HV.out, hr]; rfl)
      have HKI := Lib.hid (show ∀ (i : Nat) (x : Nod), k.C.nodes[i]? = some x → kidsIn k.C x = true from fun i x hx => by
        have := HBK.out.symm
        unfold kidsB at this
        simp only [Bool.and_eq_true] at this
        exact List.all_eq_true.1 this.2 x (List.mem_of_getElem? hx))
      clear HV
      cases ba with
      | true =>
        go_enter Try.func11, Try.ntmps11
        go_wp2_with fail
        refine wp_region_below (by kernel_rfl) (by kernel_rfl) ?_
        repeat (first
          | (refine qv_skip (by rfl) ?_; simp only [Act.put, List.setIfInBounds_toArray, List.set_cons_zero, List.set_cons_succ])
          | (refine qv_val' (by rfl) ?_; apply Exists.intro; refine ⟨fun w5 hC => ?_, ?_⟩; (have qqr0 := below_cell hC P0.out; have qqr1 := below_cell hC P1.out; have qqr2 := below_cell hC P2.out; have qqr3 := below_cell hC G0.out; have qqr4 := below_cell hC C0.out; go_simp; rfl); simp only [Act.put, List.setIfInBounds_toArray, List.set_cons_zero, List.set_cons_succ])
          | (refine qv_call' (by rfl) ?_; apply Exists.intro; apply Exists.intro; apply Exists.intro; refine ⟨fun w5 hC => ?_, fun w5 hC => ?_, ?_⟩; (go_simp; first | rfl | exact ⟨rfl, rfl⟩); (first | (go_at_call 14; exact calls_in hC (HKC.out w5 hC)) | (go_at_call 16; exact calls_in hC (named_key k.G.start 0 k.W.size w5)) | (go_at_call 15; with_reducible exact calls_in hC (HIA.out w5 hC))); simp only [Act.put, List.setIfInBounds_toArray, List.set_cons_zero, List.set_cons_succ]))
        refine qv_nil ?_
        intro w5 hC
        have HB0 := Lib.hid hC
        have H0 := Lib.hid (H.out.mono hC)
        have q2 := H0.out.p2
        have q3 := H0.out.c1
        clear hC
        obtain ⟨w0, hw0⟩ : ∃ w0, w0 = w5 := ⟨_, rfl⟩
        rw [← hw0] at HB0 H0 q2 q3 ⊢
        clear hw0 w5
        go_wp2_with fail
        clear q2 q3
        go_loopw [64] (fun cnt wr => AllTo k.C.nodes (nodeB k.C k.G k.W) w0 cnt wr) (fun cnt _ => k.C.nodes.length - (intOf cnt).toNat)
        case atStart => exact ⟨0, rfl, Nat.zero_le _, rfl, below_refl _⟩
        case round =>
          obtain ⟨i, rfl, hi, hall, hb⟩ := hrel
          have HB := Lib.hid hb
          have HA := Lib.hid hall
          have H2 := Lib.hid (H0.out.mono hb)
          clear hb hall
          by_cases hlt : i < k.C.nodes.length
          · obtain ⟨x, hx⟩ : ∃ x, k.C.nodes[i]? = some x := ⟨_, List.getElem?_eq_getElem hlt⟩
            obtain ⟨nd, A1, c1, eA, hNd⟩ := nod_at H2.out.nod hx
            have q2 := H2.out.p2
            have q3 := H2.out.c1
            rw [eA] at q3
            have b1 : (i : Int) < k.C.nodes.length := by omega
            have HQ := Lib.hid hx
            obtain ⟨bl, hbl⟩ : ∃ bl, bl = nodeB k.C k.G k.W x := ⟨_, rfl⟩
            have HC := Lib.hid (show Calls Try.prog 17 #[.pointer (some ⟨k.p, 0, none⟩), .pointer (some (nd.add (i * 10)))] wr fun e w' => e = .returned (.bool bl) ∧ Below wr.heap.size wr w' by
              rw [hbl]; exact node_ok H2.out F hNd (HKI.out i x hx))
            have HBL := Lib.hid hbl
            clear hbl hNd hx eA
            cases bl with
            | false =>
              go_wp2_with (first | (go_at_call 17; refine HC.out.mono ?_; rintro e w2 ⟨rfl, hb2⟩; have HB2 := Lib.hid (below_trans HB.out hb2); clear hb2) | fail)
              go_ret
              exact ⟨by rw [HT.out, all_bad HQ.out HBL.out.symm]; rfl, below_trans HB0.out HB2.out⟩
            | true =>
              go_wp2_with (first | (go_at_call 17; refine HC.out.mono ?_; rintro e w2 ⟨rfl, hb2⟩; have HB2 := Lib.hid (below_trans HB.out hb2); clear hb2) | fail)
              go_roundw
              case rel => exact ⟨i + 1, by go_num, by omega, by rw [all_take HQ.out, HA.out, ← HBL.out]; rfl, HB2.out⟩
              case measure => simp [intOf]; omega
          · have hie : i = k.C.nodes.length := by omega
            have HE := Lib.hid (show k.C.nodes.all (nodeB k.C k.G k.W) = true by have := HA.out; rw [hie, List.take_length] at this; exact this)
            subst hie
            go_wp2_with fail
            go_ret
            exact ⟨by rw [HT.out, HE.out]; rfl, below_trans HB0.out HB.out⟩
      | false =>
        obtain rfl : bb = true := by simpa using hr
        clear hr
        go_enter Try.func11, Try.ntmps11
        go_wp2_with fail
        refine wp_region_below (by kernel_rfl) (by kernel_rfl) ?_
        repeat (first
          | (refine qv_skip (by rfl) ?_; simp only [Act.put, List.setIfInBounds_toArray, List.set_cons_zero, List.set_cons_succ])
          | (refine qv_val' (by rfl) ?_; apply Exists.intro; refine ⟨fun w5 hC => ?_, ?_⟩; (have qqr0 := below_cell hC P0.out; have qqr1 := below_cell hC P1.out; have qqr2 := below_cell hC P2.out; have qqr3 := below_cell hC G0.out; have qqr4 := below_cell hC C0.out; go_simp; rfl); simp only [Act.put, List.setIfInBounds_toArray, List.set_cons_zero, List.set_cons_succ])
          | (refine qv_call' (by rfl) ?_; apply Exists.intro; apply Exists.intro; apply Exists.intro; refine ⟨fun w5 hC => ?_, fun w5 hC => ?_, ?_⟩; (go_simp; first | rfl | exact ⟨rfl, rfl⟩); (first | (go_at_call 14; exact calls_in hC (HKC.out w5 hC)) | (go_at_call 16; exact calls_in hC (named_key k.G.start 0 k.W.size w5)) | (go_at_call 15; with_reducible exact calls_in hC (HIA.out w5 hC)) | (go_at_call 15; with_reducible exact calls_in hC (HIB.out w5 hC))); simp only [Act.put, List.setIfInBounds_toArray, List.set_cons_zero, List.set_cons_succ]))
        refine qv_nil ?_
        intro w5 hC
        have HB0 := Lib.hid hC
        have H0 := Lib.hid (H.out.mono hC)
        have q2 := H0.out.p2
        have q3 := H0.out.c1
        clear hC
        obtain ⟨w0, hw0⟩ : ∃ w0, w0 = w5 := ⟨_, rfl⟩
        rw [← hw0] at HB0 H0 q2 q3 ⊢
        clear hw0 w5
        go_wp2_with fail
        clear q2 q3
        go_loopw [64] (fun cnt wr => AllTo k.C.nodes (nodeB k.C k.G k.W) w0 cnt wr) (fun cnt _ => k.C.nodes.length - (intOf cnt).toNat)
        case atStart => exact ⟨0, rfl, Nat.zero_le _, rfl, below_refl _⟩
        case round =>
          obtain ⟨i, rfl, hi, hall, hb⟩ := hrel
          have HB := Lib.hid hb
          have HA := Lib.hid hall
          have H2 := Lib.hid (H0.out.mono hb)
          clear hb hall
          by_cases hlt : i < k.C.nodes.length
          · obtain ⟨x, hx⟩ : ∃ x, k.C.nodes[i]? = some x := ⟨_, List.getElem?_eq_getElem hlt⟩
            obtain ⟨nd, A1, c1, eA, hNd⟩ := nod_at H2.out.nod hx
            have q2 := H2.out.p2
            have q3 := H2.out.c1
            rw [eA] at q3
            have b1 : (i : Int) < k.C.nodes.length := by omega
            have HQ := Lib.hid hx
            obtain ⟨bl, hbl⟩ : ∃ bl, bl = nodeB k.C k.G k.W x := ⟨_, rfl⟩
            have HC := Lib.hid (show Calls Try.prog 17 #[.pointer (some ⟨k.p, 0, none⟩), .pointer (some (nd.add (i * 10)))] wr fun e w' => e = .returned (.bool bl) ∧ Below wr.heap.size wr w' by
              rw [hbl]; exact node_ok H2.out F hNd (HKI.out i x hx))
            have HBL := Lib.hid hbl
            clear hbl hNd hx eA
            cases bl with
            | false =>
              go_wp2_with (first | (go_at_call 17; refine HC.out.mono ?_; rintro e w2 ⟨rfl, hb2⟩; have HB2 := Lib.hid (below_trans HB.out hb2); clear hb2) | fail)
              go_ret
              exact ⟨by rw [HT.out, all_bad HQ.out HBL.out.symm]; rfl, below_trans HB0.out HB2.out⟩
            | true =>
              go_wp2_with (first | (go_at_call 17; refine HC.out.mono ?_; rintro e w2 ⟨rfl, hb2⟩; have HB2 := Lib.hid (below_trans HB.out hb2); clear hb2) | fail)
              go_roundw
              case rel => exact ⟨i + 1, by go_num, by omega, by rw [all_take HQ.out, HA.out, ← HBL.out]; rfl, HB2.out⟩
              case measure => simp [intOf]; omega
          · have hie : i = k.C.nodes.length := by omega
            have HE := Lib.hid (show k.C.nodes.all (nodeB k.C k.G k.W) = true by have := HA.out; rw [hie, List.take_length] at this; exact this)
            subst hie
            go_wp2_with fail
            go_ret
            exact ⟨by rw [HT.out, HE.out]; rfl, below_trans HB0.out HB.out⟩
    · have hr' : (ba || bb) = false := by simpa using hr
      have HT := Lib.hid (show takenB k.C k.G k.W = false by rw [HV.out, hr']; rfl)
      obtain ⟨rfl, rfl⟩ : ba = false ∧ bb = false := by simpa using hr'
      clear hr hr'
      go_enter Try.func11, Try.ntmps11
      go_wp2_with fail
      refine wp_region_below (by kernel_rfl) (by kernel_rfl) ?_
      repeat (first
        | (refine qv_skip (by rfl) ?_; simp only [Act.put, List.setIfInBounds_toArray, List.set_cons_zero, List.set_cons_succ])
        | (refine qv_val' (by rfl) ?_; apply Exists.intro; refine ⟨fun w5 hC => ?_, ?_⟩; (have qqr0 := below_cell hC P0.out; have qqr1 := below_cell hC P1.out; have qqr2 := below_cell hC P2.out; have qqr3 := below_cell hC G0.out; have qqr4 := below_cell hC C0.out; go_simp; rfl); simp only [Act.put, List.setIfInBounds_toArray, List.set_cons_zero, List.set_cons_succ])
        | (refine qv_call' (by rfl) ?_; apply Exists.intro; apply Exists.intro; apply Exists.intro; refine ⟨fun w5 hC => ?_, fun w5 hC => ?_, ?_⟩; (go_simp; first | rfl | exact ⟨rfl, rfl⟩); (first | (go_at_call 14; exact calls_in hC (HKC.out w5 hC)) | (go_at_call 16; exact calls_in hC (named_key k.G.start 0 k.W.size w5)) | (go_at_call 15; with_reducible exact calls_in hC (HIA.out w5 hC)) | (go_at_call 15; with_reducible exact calls_in hC (HIB.out w5 hC))); simp only [Act.put, List.setIfInBounds_toArray, List.set_cons_zero, List.set_cons_succ]))
      refine qv_nil ?_
      intro w5 hC
      have HB5 := Lib.hid hC
      clear hC
      go_wp2_with fail
      go_ret
      exact ⟨by rw [HT.out]; rfl, HB5.out⟩
end Go.Proofs.Ytfmfoiecphhhiaa
