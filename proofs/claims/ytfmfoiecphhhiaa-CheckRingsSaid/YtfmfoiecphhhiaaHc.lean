/-
  Ha: the checker's goes.
  Hc: the checker's wants, stops.
-/
import Derived.Test.YtfmfoiecphhhiaaH8b
set_option linter.unusedSimpArgs false
set_option linter.unusedVariables false
namespace Go.Proofs.Ytfmfoiecphhhiaa
open Go.RowKit

theorem symPost_none {G : Gram} {p : Plc} {w : World} {e : Ending} {w' : World} (h : SymPost G p w e w') (hs : symOf G p = none) : e = .returned (.tuple #[.agg #[.int .i64 0, .int .i64 0, .int .i64 0], .bool false]) ∧ Below w.heap.size w w' := by
  unfold SymPost at h
  rw [hs] at h
  exact ⟨h.2, h.1⟩
theorem symPost_some {G : Gram} {p : Plc} {w : World} {e : Ending} {w' : World} {s : Sym} (h : SymPost G p w e w') (hs : symOf G p = some s) : e = .returned (.tuple #[.agg #[.int .i64 s.name, .int .i64 s.lo, .int .i64 s.hi], .bool true]) ∧ Below w.heap.size w w' := by
  unfold SymPost at h
  rw [hs] at h
  exact ⟨h.2, h.1⟩

set_option maxRecDepth 100000 in
set_option maxHeartbeats 8000000 in
theorem goes_ok {w : World} {k : CK} (h : CkAt w k) (F : k.Fits) {na : Addr} {x : Nod} {A : Option Addr} {c : Nat} (hn : NodAt w na x A c) (hk : kidsIn k.C x = true) (hS : Shaped k.G k.W x) (hpl : plcB k.G x.plc = true) :
    Calls Try.prog 28 #[.pointer (some ⟨k.p, 0, none⟩), .pointer (some na)] w fun e w' => e = .returned (.bool (goesB k.C k.G k.W x)) ∧ Below w.heap.size w w' := by
  have hl1 := hn.l1
  have hl2 := hn.l2
  have H := Lib.hid h
  have HN := Lib.hid hn
  have HK := Lib.hid hk
  have HSH := Lib.hid hS
  have HPL := Lib.hid hpl
  have HSY := Lib.hid (symbol_ok h F hn hpl)
  clear h hn hk hS hpl
  cases hs : symOf k.G x.plc with
  | none =>
    have HV := Lib.hid (show goesB k.C k.G k.W x = (decide (x.i = x.j) && x.picks.isEmpty && rankedB k.C x) by unfold goesB; rw [hs])
    have HSY := Lib.hid (HSY.out.mono fun e w' h => symPost_none h hs)
    clear hs
    go_enter Try.func28, Try.ntmps28
    go_wp2_with (first | (go_at_call 46; refine HSY.out.mono ?_; rintro e w1 ⟨rfl, hb1⟩) | fail)
    have hb2 := below_alloc' hb1 (Obj.cells #[.int .i64 0, .int .i64 0, .int .i64 0] 46)
    generalize w1.alloc (Obj.cells #[.int .i64 0, .int .i64 0, .int .i64 0] 46) = w2 at hb2 ⊢
    have H2 := Lib.hid (H.out.mono hb2)
    have HN2 := Lib.hid (HN.out.mono hb2)
    have HB2 := Lib.hid hb2
    have Z6 := Lib.hid HN2.out.c6
    have Z7 := Lib.hid HN2.out.c7
    have Z9 := Lib.hid HN2.out.c9
    clear hb1 hb2
    obtain ⟨bl, hbl⟩ : ∃ bl, bl = rankedB k.C x := ⟨_, rfl⟩
    have HC := Lib.hid (show ∀ w5, Below w2.heap.size w2 w5 → Calls Try.prog 44 #[.pointer (some ⟨k.p, 0, none⟩), .pointer (some na)] w5 fun e w' => e = .returned (.bool bl) ∧ Below w5.heap.size w5 w' from fun w5 hC => by
      rw [hbl]; exact ranked_any (H2.out.mono hC) F (HN2.out.mono hC) HK.out)
    have HBL := Lib.hid hbl
    clear hbl
    by_cases h1 : x.i = x.j
    · have d1 : (x.i == x.j) = true := by simp [h1]
      by_cases h2 : x.picks.length = 0
      · have d2 : ((x.picks.length : Int) == 0) = true := by simp [h2]
        have d2' : (x.picks.length == 0) = true := by simp [h2]
        have HZ := Lib.hid (show goesB k.C k.G k.W x = bl by rw [HV.out, decide_eq_true h1, HBL.out, List.eq_nil_of_length_eq_zero h2]; rfl)
        have Z9 := Lib.hid (show w2.cell? ⟨na.block, na.off + 9, none⟩ = some (.slice A 0 c) by rw [Z9.out, h2])
        clear h1 h2
        refine wp_region_below (by kernel_rfl) (by kernel_rfl) ?_
        repeat (first
          | (refine qv_skip (by rfl) ?_; simp only [Act.put, List.setIfInBounds_toArray, List.set_cons_zero, List.set_cons_succ])
          | (refine qv_val' (by rfl) ?_; apply Exists.intro; refine ⟨fun w5 hC => ?_, ?_⟩; (have qqr0 := below_cell hC Z6.out; have qqr1 := below_cell hC Z7.out; have qqr2 := below_cell hC Z9.out; go_simp; rfl); simp only [Act.put, List.setIfInBounds_toArray, List.set_cons_zero, List.set_cons_succ])
          | (refine qv_call' (by rfl) ?_; apply Exists.intro; apply Exists.intro; apply Exists.intro; refine ⟨fun w5 hC => ?_, fun w5 hC => ?_, ?_⟩; (go_simp; first | rfl | exact ⟨rfl, rfl⟩); (first | (go_at_call 44; exact calls_in hC (HC.out w5 hC))); simp only [Act.put, List.setIfInBounds_toArray, List.set_cons_zero, List.set_cons_succ]))
        refine qv_nil ?_
        intro w5 hC
        have HB5 := Lib.hid (below_trans HB2.out hC)
        clear hC
        go_wp2_with fail
        go_ret
        exact ⟨by rw [HZ.out]; rfl, HB5.out⟩
      · have d2 : ((x.picks.length : Int) == 0) = false := beq_eq_false_iff_ne.2 (by omega)
        have d2' : (x.picks.length == 0) = false := by simpa using h2
        have HZ := Lib.hid (show goesB k.C k.G k.W x = false by rw [HV.out]; cases hp : x.picks with | nil => rw [hp] at h2; simp at h2 | cons a l => simp)
        clear h1 h2
        refine wp_region_below (by kernel_rfl) (by kernel_rfl) ?_
        repeat (first
          | (refine qv_skip (by rfl) ?_; simp only [Act.put, List.setIfInBounds_toArray, List.set_cons_zero, List.set_cons_succ])
          | (refine qv_val' (by rfl) ?_; apply Exists.intro; refine ⟨fun w5 hC => ?_, ?_⟩; (have qqr0 := below_cell hC Z6.out; have qqr1 := below_cell hC Z7.out; have qqr2 := below_cell hC Z9.out; go_simp; rfl); simp only [Act.put, List.setIfInBounds_toArray, List.set_cons_zero, List.set_cons_succ])
          | (refine qv_call' (by rfl) ?_; apply Exists.intro; apply Exists.intro; apply Exists.intro; refine ⟨fun w5 hC => ?_, fun w5 hC => ?_, ?_⟩; (go_simp; first | rfl | exact ⟨rfl, rfl⟩); (first | (go_at_call 44; exact calls_in hC (HC.out w5 hC))); simp only [Act.put, List.setIfInBounds_toArray, List.set_cons_zero, List.set_cons_succ]))
        refine qv_nil ?_
        intro w5 hC
        have HB5 := Lib.hid (below_trans HB2.out hC)
        clear hC
        go_wp2_with fail
        go_ret
        exact ⟨by rw [HZ.out]; rfl, HB5.out⟩
    · have d1 : (x.i == x.j) = false := by simpa using h1
      have HZ := Lib.hid (show goesB k.C k.G k.W x = false by rw [HV.out, decide_eq_false h1]; rfl)
      clear h1
      refine wp_region_below (by kernel_rfl) (by kernel_rfl) ?_
      repeat (first
        | (refine qv_skip (by rfl) ?_; simp only [Act.put, List.setIfInBounds_toArray, List.set_cons_zero, List.set_cons_succ])
        | (refine qv_val' (by rfl) ?_; apply Exists.intro; refine ⟨fun w5 hC => ?_, ?_⟩; (have qqr0 := below_cell hC Z6.out; have qqr1 := below_cell hC Z7.out; have qqr2 := below_cell hC Z9.out; go_simp; rfl); simp only [Act.put, List.setIfInBounds_toArray, List.set_cons_zero, List.set_cons_succ])
        | (refine qv_call' (by rfl) ?_; apply Exists.intro; apply Exists.intro; apply Exists.intro; refine ⟨fun w5 hC => ?_, fun w5 hC => ?_, ?_⟩; (go_simp; first | rfl | exact ⟨rfl, rfl⟩); (first | (go_at_call 44; exact calls_in hC (HC.out w5 hC))); simp only [Act.put, List.setIfInBounds_toArray, List.set_cons_zero, List.set_cons_succ]))
      refine qv_nil ?_
      intro w5 hC
      have HB5 := Lib.hid (below_trans HB2.out hC)
      clear hC
      go_wp2_with fail
      go_ret
      exact ⟨by rw [HZ.out]; rfl, HB5.out⟩
  | some s =>
    have HSY := Lib.hid (HSY.out.mono fun e w' h => symPost_some h hs)
    have HV := Lib.hid (show goesB k.C k.G k.W x = (if s.name < 0 then readB k.W x s && onB k.C x true && rankedB k.C x else risingB x.picks && x.picks.all (splitOK k.C x s.name) && rankedB k.C x) by unfold goesB; rw [hs])
    clear hs
    go_enter Try.func28, Try.ntmps28
    by_cases h1 : s.name < 0
    · have d1 : decide (s.name < 0) = true := by simpa using h1
      have HV := Lib.hid (HV.out.trans (if_pos h1))
      clear h1
      go_wp2_with (first | (go_at_call 46; refine HSY.out.mono ?_; rintro e w1 ⟨rfl, hb1⟩) | fail)
      have hb2 := below_alloc' hb1 (Obj.cells #[.int .i64 s.name, .int .i64 s.lo, .int .i64 s.hi] 46)
      clear hb1
      generalize w1.alloc (Obj.cells #[.int .i64 s.name, .int .i64 s.lo, .int .i64 s.hi] 46) = w2 at hb2 ⊢
      have H2 := Lib.hid (H.out.mono hb2)
      have HN2 := Lib.hid (HN.out.mono hb2)
      have HB2 := Lib.hid hb2
      clear hb2
      obtain ⟨br, hbr⟩ : ∃ b, b = readB k.W x s := ⟨_, rfl⟩
      have HR := Lib.hid (show Calls Try.prog 47 #[.pointer (some ⟨k.p, 0, none⟩), .pointer (some na), .agg #[.int .i64 s.name, .int .i64 s.lo, .int .i64 s.hi]] w2 fun e w' => e = .returned (.bool br) ∧ Below w2.heap.size w2 w' by
        rw [hbr]; exact read_ok H2.out F HN2.out HSH.out.i0 HSH.out.j1 s)
      refine HR.out.mono ?_
      rintro e w3 ⟨rfl, hb3⟩
      have HB3 := Lib.hid (below_trans HB2.out hb3)
      have H3 := Lib.hid (H2.out.mono hb3)
      have HN3 := Lib.hid (HN2.out.mono hb3)
      clear hb3
      cases br with
      | false =>
        have HZ := Lib.hid (show goesB k.C k.G k.W x = false by rw [HV.out, ← hbr]; rfl)
        clear hbr
        go_wp2_with fail
        go_ret
        exact ⟨by rw [HZ.out]; rfl, HB3.out⟩
      | true =>
        have hij : x.i < x.j := by
          unfold readB at hbr
          have := hbr.symm
          simp only [Bool.and_eq_true, decide_eq_true_eq] at this
          exact this.1.1
        obtain ⟨bo, hbo⟩ : ∃ b, b = onB k.C x true := ⟨_, rfl⟩
        have HO := Lib.hid (show Calls Try.prog 48 #[.pointer (some ⟨k.p, 0, none⟩), .pointer (some na), .bool true] w3 fun e w' => e = .returned (.bool bo) ∧ Below w3.heap.size w3 w' by
          rw [hbo]; exact on_ok H3.out F HN3.out HSH.out hij HPL.out true)
        have HV := Lib.hid (show goesB k.C k.G k.W x = (bo && rankedB k.C x) by rw [HV.out, ← hbr, ← hbo]; rfl)
        clear hbr hij hbo
        cases bo with
        | false =>
          go_wp2_with (first | (go_at_call 48; refine HO.out.mono ?_; rintro e w4 ⟨rfl, hb4⟩; have HB4 := Lib.hid (below_trans HB3.out hb4); clear hb4) | fail)
          go_ret
          exact ⟨by rw [HV.out]; rfl, HB4.out⟩
        | true =>
          have HRK := Lib.hid (show ∀ w5, Below w3.heap.size w3 w5 → Calls Try.prog 44 #[.pointer (some ⟨k.p, 0, none⟩), .pointer (some na)] w5 fun e w' => e = .returned (.bool (rankedB k.C x)) ∧ Below w5.heap.size w5 w' from fun w5 hC => ranked_any (H3.out.mono hC) F (HN3.out.mono hC) HK.out)
          go_wp2_with (first | (go_at_call 48; refine HO.out.mono ?_; rintro e w4 ⟨rfl, hb4⟩; have HB4 := Lib.hid (below_trans HB3.out hb4); have HR4 := Lib.hid (HRK.out w4 hb4); clear hb4) | (go_at_call 44; refine HR4.out.mono ?_; rintro e w5 ⟨rfl, hb5⟩; have HB5 := Lib.hid (below_trans HB4.out hb5); clear hb5) | fail)
          go_ret
          exact ⟨by rw [HV.out]; rfl, HB5.out⟩
    · have d1 : decide (s.name < 0) = false := by simpa using h1
      have HV := Lib.hid (HV.out.trans (if_neg h1))
      clear h1
      go_wp2_with (first | (go_at_call 46; refine HSY.out.mono ?_; rintro e w1 ⟨rfl, hb1⟩; have hb2 := below_alloc' hb1 (Obj.cells #[.int .i64 s.name, .int .i64 s.lo, .int .i64 s.hi] 46); have z9 := (HN.out.mono hb2).c9; have HB2 := Lib.hid hb2; clear hb1 hb2) | fail)
      have B5 := heap_alloc_new w1 (Obj.cells #[.int .i64 s.name, .int .i64 s.lo, .int .i64 s.hi] 46)
      obtain ⟨b5, hb5⟩ : ∃ b, b = w1.heap.size := ⟨_, rfl⟩
      rw [← hb5] at B5 ⊢
      clear hb5
      generalize w1.alloc (Obj.cells #[.int .i64 s.name, .int .i64 s.lo, .int .i64 s.hi] 46) = w2 at HB2 z9 B5 ⊢
      have H2 := Lib.hid (H.out.mono HB2.out)
      have HN2 := Lib.hid (HN.out.mono HB2.out)
      have HS5 := Lib.hid B5
      clear B5
      obtain ⟨br, hbr⟩ : ∃ b, b = risingB x.picks := ⟨_, rfl⟩
      have HR := Lib.hid (show Calls Try.prog 42 #[.slice A x.picks.length c] w2 fun e w' => e = .returned (.bool br) ∧ Below w2.heap.size w2 w' by
        rw [hbr]; exact rising_any hl1 hl2 HN2.out.pk)
      refine HR.out.mono ?_
      rintro e w3 ⟨rfl, hb3⟩
      have HB3 := Lib.hid (below_trans HB2.out hb3)
      have H3 := Lib.hid (H2.out.mono hb3)
      have HN3 := Lib.hid (HN2.out.mono hb3)
      have HS3 := Lib.hid (blk_below HS5.out hb3)
      clear hb3 z9
      have z9 := HN3.out.c9
      cases br with
      | false =>
        have HZ := Lib.hid (show goesB k.C k.G k.W x = false by rw [HV.out, ← hbr]; rfl)
        clear hbr
        go_wp2_with fail
        go_ret
        exact ⟨by rw [HZ.out]; rfl, HB3.out⟩
      | true =>
        have HV := Lib.hid (show goesB k.C k.G k.W x = (x.picks.all (splitOK k.C x s.name) && rankedB k.C x) by rw [HV.out, ← hbr]; rfl)
        clear hbr
        go_wp2_with fail
        clear z9
        go_loopw [69] (fun cnt wr => AllTo x.picks (splitOK k.C x s.name) w3 cnt wr) (fun cnt _ => x.picks.length - (intOf cnt).toNat)
        case atStart => exact ⟨0, rfl, Nat.zero_le _, rfl, below_refl _⟩
        case round =>
          obtain ⟨i, rfl, hi, hall, hb⟩ := hrel
          have HB := Lib.hid hb
          have HA := Lib.hid hall
          have H4 := Lib.hid (H3.out.mono hb)
          have HN4 := Lib.hid (HN3.out.mono hb)
          have S0 := Lib.hid (show wr.cell? ⟨b5, 0, none⟩ = some (.int .i64 s.name) from blk_cell (blk_below HS3.out hb) 0)
          clear hb hall
          by_cases hlt : i < x.picks.length
          · obtain ⟨p, hp⟩ : ∃ p, x.picks[i]? = some p := ⟨_, List.getElem?_eq_getElem hlt⟩
            obtain ⟨pd, A1, c1, eA, hPk⟩ := pck_at HN4.out.pk hp
            subst eA
            have b1 : (i : Int) < x.picks.length := by omega
            have Z9 := Lib.hid HN4.out.c9
            have HQ := Lib.hid hp
            have HPk := Lib.hid hPk
            obtain ⟨bl, hbl⟩ : ∃ bl, bl = splitOK k.C x s.name p := ⟨_, rfl⟩
            have HC := Lib.hid (show ∀ w5, Below wr.heap.size wr w5 → Calls Try.prog 49 #[.pointer (some ⟨k.p, 0, none⟩), .pointer (some na), .pointer (some (pd.add (i * 3))), .int .i64 s.name] w5 fun e w' => e = .returned (.bool bl) ∧ Below w5.heap.size w5 w' from fun w5 hC => by
              rw [hbl]; exact split_ok (H4.out.mono hC) F (HN4.out.mono hC) HPL.out (HPk.out.mono hC) s.name)
            have HBL := Lib.hid hbl
            clear hbl hPk hp
            go_wp2_with fail
            cases bl with
            | false =>
              refine wp_region_below (by kernel_rfl) (by kernel_rfl) ?_
              repeat (first
                | (refine qv_skip (by rfl) ?_; simp only [Act.put, List.setIfInBounds_toArray, List.set_cons_zero, List.set_cons_succ])
                | (refine qv_val' (by rfl) ?_; apply Exists.intro; refine ⟨fun w5 hC => ?_, ?_⟩; (have qqr0 := below_cell hC S0.out; have qqr1 := below_cell hC Z9.out; go_simp; rfl); simp only [Act.put, List.setIfInBounds_toArray, List.set_cons_zero, List.set_cons_succ])
                | (refine qv_call' (by rfl) ?_; apply Exists.intro; apply Exists.intro; apply Exists.intro; refine ⟨fun w5 hC => ?_, fun w5 hC => ?_, ?_⟩; (go_simp; first | rfl | exact ⟨rfl, rfl⟩); (first | (go_at_call 49; exact calls_in hC (HC.out w5 hC))); simp only [Act.put, List.setIfInBounds_toArray, List.set_cons_zero, List.set_cons_succ]))
              refine qv_nil ?_
              intro w5 hC
              have HB5 := Lib.hid (below_trans HB3.out (below_trans HB.out hC))
              clear hC
              go_wp2_with fail
              go_ret
              exact ⟨by rw [HV.out, all_bad HQ.out HBL.out.symm]; rfl, HB5.out⟩
            | true =>
              refine wp_region_below (by kernel_rfl) (by kernel_rfl) ?_
              repeat (first
                | (refine qv_skip (by rfl) ?_; simp only [Act.put, List.setIfInBounds_toArray, List.set_cons_zero, List.set_cons_succ])
                | (refine qv_val' (by rfl) ?_; apply Exists.intro; refine ⟨fun w5 hC => ?_, ?_⟩; (have qqr0 := below_cell hC S0.out; have qqr1 := below_cell hC Z9.out; go_simp; rfl); simp only [Act.put, List.setIfInBounds_toArray, List.set_cons_zero, List.set_cons_succ])
                | (refine qv_call' (by rfl) ?_; apply Exists.intro; apply Exists.intro; apply Exists.intro; refine ⟨fun w5 hC => ?_, fun w5 hC => ?_, ?_⟩; (go_simp; first | rfl | exact ⟨rfl, rfl⟩); (first | (go_at_call 49; exact calls_in hC (HC.out w5 hC))); simp only [Act.put, List.setIfInBounds_toArray, List.set_cons_zero, List.set_cons_succ]))
              refine qv_nil ?_
              intro w5 hC
              have HB5 := Lib.hid (below_trans HB.out hC)
              clear hC
              go_wp2_with fail
              go_roundw
              case rel => exact ⟨i + 1, by go_num, by omega, by rw [all_take HQ.out, HA.out, ← HBL.out]; rfl, HB5.out⟩
              case measure => simp [intOf]; omega
          · have hie : i = x.picks.length := by omega
            have HE := Lib.hid (show x.picks.all (splitOK k.C x s.name) = true by have := HA.out; rw [hie, List.take_length] at this; exact this)
            have HC := Lib.hid (ranked_any H4.out F HN4.out HK.out)
            subst hie
            go_wp2_with (first | (go_at_call 44; refine HC.out.mono ?_; rintro e w4 ⟨rfl, hb4⟩; have HB4 := Lib.hid (below_trans HB.out hb4); clear hb4) | fail)
            go_ret
            exact ⟨by rw [HV.out, HE.out]; rfl, below_trans HB3.out HB4.out⟩
end Go.Proofs.Ytfmfoiecphhhiaa

set_option linter.unusedSimpArgs false
set_option linter.unusedVariables false
namespace Go.Proofs.Ytfmfoiecphhhiaa
open Go.RowKit

set_option maxRecDepth 100000 in
set_option maxHeartbeats 8000000 in
theorem wants_ok {w : World} {k : CK} (h : CkAt w k) (F : k.Fits) {na : Addr} {x : Nod} {A : Option Addr} {c : Nat} (hn : NodAt w na x A c) (hpl : plcB k.G x.plc = true) {pa : Addr} {p : Pck} {Ap : Option Addr} {cp : Nat} (hp : PckAt w pa p Ap cp) (at_ name : Int) :
    Calls Try.prog 50 #[.pointer (some ⟨k.p, 0, none⟩), .pointer (some na), .pointer (some pa), .int .i64 at_, .int .i64 name] w fun e w' => e = .returned (.bool (wantsB k.C x name at_ p)) ∧ Below w.heap.size w w' := by
  have hpos := plcB_pos F hpl
  have y0 := hp.c0
  have y1 := hp.c1
  have y2 := hp.c2
  have Z6 := Lib.hid hn.c6
  have Z7 := Lib.hid hn.c7
  have H := Lib.hid h
  have HN := Lib.hid hn
  have HP := Lib.hid hp
  clear h hn hpl hp
  by_cases h1 : p.sp = at_
  · have d1 : (p.sp != at_) = false := by simp [h1]
    by_cases h2 : p.cj = 0
    · rw [h2] at y1
      by_cases hk : p.kids.length = 1
      · obtain ⟨kd, hkd⟩ := one_of hk
        rw [hk] at y2
        obtain ⟨ad, eK, v0⟩ := Rd.C.one HP.out.kd (i := 0) (x := kd) (by rw [hkd]; rfl)
        rw [add_zero] at v0
        rw [eK] at y2
        obtain ⟨ba, hba⟩ : ∃ bl, bl = isB k.C kd false (nameKey name x.i at_) := ⟨_, rfl⟩
        obtain ⟨bb, hbb⟩ : ∃ bl, bl = isB k.C kd false (seqKey (behind x) at_ x.j) := ⟨_, rfl⟩
        have HA := Lib.hid (show ∀ w5, Below w.heap.size w w5 → Calls Try.prog 15 #[.pointer (some ⟨k.p, 0, none⟩), .int .i64 kd, .bool false, kyV (nameKey name x.i at_)] w5 fun e w' => e = .returned (.bool ba) ∧ Below w5.heap.size w5 w' from fun w5 hC => by
          rw [hba]; exact is_kid (H.out.mono hC) F kd false _)
        have HB := Lib.hid (show ∀ w5, Below w.heap.size w w5 → Calls Try.prog 15 #[.pointer (some ⟨k.p, 0, none⟩), .int .i64 kd, .bool false, kyV (seqKey (behind x) at_ x.j)] w5 fun e w' => e = .returned (.bool bb) ∧ Below w5.heap.size w5 w' from fun w5 hC => by
          rw [hbb]; exact is_kid (H.out.mono hC) F kd false _)
        have HV := Lib.hid (show wantsB k.C x name at_ p = (ba || bb) by unfold wantsB; rw [hkd, decide_eq_true h1, decide_eq_true h2, hba, hbb]; rfl)
        clear h1 h2 hk hkd hba hbb eK
        go_enter Try.func50, Try.ntmps50
        go_wp2_with fail
        have Y2 := Lib.hid y2
        have V0 := Lib.hid v0
        clear y0 y1 y2 v0
        cases ba with
        | true =>
          refine wp_region_below (by kernel_rfl) (by kernel_rfl) ?_
          repeat (first
            | (refine qv_skip (by rfl) ?_; simp only [Act.put, List.setIfInBounds_toArray, List.set_cons_zero, List.set_cons_succ])
            | (refine qv_val' (by rfl) ?_; apply Exists.intro; refine ⟨fun w5 hC => ?_, ?_⟩; (have qqr0 := below_cell hC Y2.out; have qqr1 := below_cell hC Z6.out; have qqr2 := below_cell hC Z7.out; have qqr3 := below_cell hC V0.out; go_simp; rfl); simp only [Act.put, List.setIfInBounds_toArray, List.set_cons_zero, List.set_cons_succ])
            | (refine qv_call' (by rfl) ?_; apply Exists.intro; apply Exists.intro; apply Exists.intro; refine ⟨fun w5 hC => ?_, fun w5 hC => ?_, ?_⟩; (go_simp; first | rfl | exact ⟨rfl, rfl⟩); (first | (go_at_call 16; exact calls_in hC (named_key name x.i at_ w5)) | (go_at_call 15; with_reducible exact calls_in hC (HA.out w5 hC))); simp only [Act.put, List.setIfInBounds_toArray, List.set_cons_zero, List.set_cons_succ]))
          refine qv_nil ?_
          intro w5 hC
          have HB5 := Lib.hid hC
          clear hC
          go_wp2_with fail
          go_ret
          exact ⟨by rw [HV.out]; rfl, HB5.out⟩
        | false =>
          refine wp_region_below (by kernel_rfl) (by kernel_rfl) ?_
          repeat (first
            | (refine qv_skip (by rfl) ?_; simp only [Act.put, List.setIfInBounds_toArray, List.set_cons_zero, List.set_cons_succ])
            | (refine qv_val' (by rfl) ?_; apply Exists.intro; refine ⟨fun w5 hC => ?_, ?_⟩; (have qqr0 := below_cell hC Y2.out; have qqr1 := below_cell hC Z6.out; have qqr2 := below_cell hC Z7.out; have qqr3 := below_cell hC V0.out; go_simp; rfl); simp only [Act.put, List.setIfInBounds_toArray, List.set_cons_zero, List.set_cons_succ])
            | (refine qv_call' (by rfl) ?_; apply Exists.intro; apply Exists.intro; apply Exists.intro; refine ⟨fun w5 hC => ?_, fun w5 hC => ?_, ?_⟩; (go_simp; first | rfl | exact ⟨rfl, rfl⟩); (first | (go_at_call 16; exact calls_in hC (named_key name x.i at_ w5)) | (go_at_call 60; exact calls_in hC (behind_any (HN.out.mono hC) hpos.1 hpos.2)) | (go_at_call 58; exact calls_in hC (rest_key (behind x) at_ x.j w5)) | (go_at_call 15; with_reducible exact calls_in hC (HA.out w5 hC)) | (go_at_call 15; with_reducible exact calls_in hC (HB.out w5 hC))); simp only [Act.put, List.setIfInBounds_toArray, List.set_cons_zero, List.set_cons_succ]))
          refine qv_nil ?_
          intro w5 hC
          have HB5 := Lib.hid hC
          clear hC
          go_wp2_with fail
          go_ret
          exact ⟨by rw [HV.out]; rfl, HB5.out⟩
      · have d4 : ((p.kids.length : Int) != 1) = true := by simp; omega
        have d4' : (p.kids.length != 1) = true := by simpa using hk
        have HZ := Lib.hid (show wantsB k.C x name at_ p = false by
          unfold wantsB
          split
          · rename_i a h; rw [h] at hk; simp at hk
          · simp)
        clear h1 h2 hk
        go_enter Try.func50, Try.ntmps50
        go_wp2_with fail
        go_ret
        exact ⟨by rw [HZ.out]; rfl, below_refl _⟩
    · have d2 : (p.cj != 0) = true := by simpa using h2
      have HZ := Lib.hid (show wantsB k.C x name at_ p = false by unfold wantsB; rw [decide_eq_false h2]; simp)
      clear h1 h2
      go_enter Try.func50, Try.ntmps50
      go_wp2_with fail
      go_ret
      exact ⟨by rw [HZ.out]; rfl, below_refl _⟩
  · have d1 : (p.sp != at_) = true := by simpa using h1
    have HZ := Lib.hid (show wantsB k.C x name at_ p = false by unfold wantsB; rw [decide_eq_false h1]; rfl)
    clear h1
    go_enter Try.func50, Try.ntmps50
    go_wp2_with fail
    go_ret
    exact ⟨by rw [HZ.out]; rfl, below_refl _⟩

set_option maxRecDepth 100000 in
set_option maxHeartbeats 8000000 in
theorem stops_ok {w : World} {k : CK} (h : CkAt w k) (F : k.Fits) {na : Addr} {x : Nod} {A : Option Addr} {c : Nat} (hn : NodAt w na x A c) (hS : Shaped k.G k.W x) (hpl : plcB k.G x.plc = true) :
    Calls Try.prog 29 #[.pointer (some ⟨k.p, 0, none⟩), .pointer (some na)] w fun e w' => e = .returned (.bool (stopsB k.C k.G k.W x)) ∧ Below w.heap.size w w' := by
  have hl1 := hn.l1
  have hl2 := hn.l2
  have H := Lib.hid h
  have HN := Lib.hid hn
  have HSH := Lib.hid hS
  have HPL := Lib.hid hpl
  have HSY := Lib.hid (symbol_ok h F hn hpl)
  clear h hn hS hpl
  cases hs : symOf k.G x.plc with
  | none =>
    have HSY := Lib.hid (HSY.out.mono fun e w' h => symPost_none h hs)
    by_cases h0 : x.rank = 0
    · have HV := Lib.hid (show stopsB k.C k.G k.W x = (decide (x.i ≠ x.j) && x.picks.isEmpty) by unfold stopsB; rw [hs, decide_eq_true h0]; rfl)
      have HR0 := Lib.hid h0
      clear hs h0
      go_enter Try.func29, Try.ntmps29
      go_wp2_with (first | (go_at_call 46; refine HSY.out.mono ?_; rintro e w1 ⟨rfl, hb1⟩; have hb2 := below_alloc' hb1 (Obj.cells #[.int .i64 0, .int .i64 0, .int .i64 0] 46); have z8 := (HN.out.mono hb2).c8; have B5 := heap_alloc_new w1 (Obj.cells #[.int .i64 0, .int .i64 0, .int .i64 0] 46); have HB2 := Lib.hid hb2; have HS5 := Lib.hid B5; rw [HR0.out] at z8; clear hb1 hb2 B5) | fail)
      generalize w1.alloc (Obj.cells #[.int .i64 0, .int .i64 0, .int .i64 0] 46) = w2 at HB2 HS5 z8 ⊢
      have HN2 := Lib.hid (HN.out.mono HB2.out)
      have Z6 := Lib.hid HN2.out.c6
      have Z7 := Lib.hid HN2.out.c7
      have Z9 := Lib.hid HN2.out.c9
      clear z8
      by_cases h1 : x.i = x.j
      · have d1 : (x.i != x.j) = false := by simp [h1]
        have HZ := Lib.hid (show stopsB k.C k.G k.W x = false by rw [HV.out]; simp [h1])
        clear h1
        refine wp_region_below (by kernel_rfl) (by kernel_rfl) ?_
        repeat (first
          | (refine qv_skip (by rfl) ?_; simp only [Act.put, List.setIfInBounds_toArray, List.set_cons_zero, List.set_cons_succ])
          | (refine qv_val' (by rfl) ?_; apply Exists.intro; refine ⟨fun w5 hC => ?_, ?_⟩; (have qqr0 := below_cell hC Z6.out; have qqr1 := below_cell hC Z7.out; have qqr2 := below_cell hC Z9.out; go_simp; rfl); simp only [Act.put, List.setIfInBounds_toArray, List.set_cons_zero, List.set_cons_succ]))
        refine qv_nil ?_
        intro w5 hC
        have HB5 := Lib.hid (below_trans HB2.out hC)
        clear hC
        go_wp2_with fail
        go_ret
        exact ⟨by rw [HZ.out]; rfl, HB5.out⟩
      · have d1 : (x.i != x.j) = true := by simpa using h1
        by_cases h2 : x.picks.length = 0
        · have Z9 := Lib.hid (show w2.cell? ⟨na.block, na.off + 9, none⟩ = some (.slice A 0 c) by rw [Z9.out, h2])
          have HZ := Lib.hid (show stopsB k.C k.G k.W x = true by rw [HV.out, List.eq_nil_of_length_eq_zero h2]; simp [h1])
          clear h1 h2
          refine wp_region_below (by kernel_rfl) (by kernel_rfl) ?_
          repeat (first
            | (refine qv_skip (by rfl) ?_; simp only [Act.put, List.setIfInBounds_toArray, List.set_cons_zero, List.set_cons_succ])
            | (refine qv_val' (by rfl) ?_; apply Exists.intro; refine ⟨fun w5 hC => ?_, ?_⟩; (have qqr0 := below_cell hC Z6.out; have qqr1 := below_cell hC Z7.out; have qqr2 := below_cell hC Z9.out; go_simp; rfl); simp only [Act.put, List.setIfInBounds_toArray, List.set_cons_zero, List.set_cons_succ]))
          refine qv_nil ?_
          intro w5 hC
          have HB5 := Lib.hid (below_trans HB2.out hC)
          clear hC
          go_wp2_with fail
          go_ret
          exact ⟨by rw [HZ.out]; rfl, HB5.out⟩
        · have d2 : ((x.picks.length : Int) == 0) = false := beq_eq_false_iff_ne.2 (by omega)
          have d2' : (x.picks.length == 0) = false := by simpa using h2
          have HZ := Lib.hid (show stopsB k.C k.G k.W x = false by rw [HV.out]; cases hp : x.picks with | nil => rw [hp] at h2; simp at h2 | cons a l => simp)
          clear h1 h2
          refine wp_region_below (by kernel_rfl) (by kernel_rfl) ?_
          repeat (first
            | (refine qv_skip (by rfl) ?_; simp only [Act.put, List.setIfInBounds_toArray, List.set_cons_zero, List.set_cons_succ])
            | (refine qv_val' (by rfl) ?_; apply Exists.intro; refine ⟨fun w5 hC => ?_, ?_⟩; (have qqr0 := below_cell hC Z6.out; have qqr1 := below_cell hC Z7.out; have qqr2 := below_cell hC Z9.out; go_simp; rfl); simp only [Act.put, List.setIfInBounds_toArray, List.set_cons_zero, List.set_cons_succ]))
          refine qv_nil ?_
          intro w5 hC
          have HB5 := Lib.hid (below_trans HB2.out hC)
          clear hC
          go_wp2_with fail
          go_ret
          exact ⟨by rw [HZ.out]; rfl, HB5.out⟩
    · have d0 : (x.rank != 0) = true := by simpa using h0
      have HZ := Lib.hid (show stopsB k.C k.G k.W x = false by unfold stopsB; rw [decide_eq_false h0]; rfl)
      clear h0 hs
      go_enter Try.func29, Try.ntmps29
      go_wp2_with (first | (go_at_call 46; refine HSY.out.mono ?_; rintro e w1 ⟨rfl, hb1⟩; have hb2 := below_alloc' hb1 (Obj.cells #[.int .i64 0, .int .i64 0, .int .i64 0] 46); have z8 := (HN.out.mono hb2).c8; have B5 := heap_alloc_new w1 (Obj.cells #[.int .i64 0, .int .i64 0, .int .i64 0] 46); have HB2 := Lib.hid hb2; have HS5 := Lib.hid B5; clear hb1 hb2 B5) | fail)
      go_ret
      exact ⟨by rw [HZ.out]; rfl, HB2.out⟩
  | some s =>
    have HSY := Lib.hid (HSY.out.mono fun e w' h => symPost_some h hs)
    by_cases h0 : x.rank = 0
    · have HV := Lib.hid (show stopsB k.C k.G k.W x = (if s.name < 0 then (if readB k.W x s then onB k.C x false else x.picks.isEmpty) else decide ((x.picks.length : Int) = x.j - x.i + 1) && (List.range x.picks.length).all (wantAt k.C x s.name)) by unfold stopsB; rw [hs, decide_eq_true h0]; rfl)
      have HR0 := Lib.hid h0
      clear hs h0
      by_cases h1 : s.name < 0
      · have d1 : decide (s.name < 0) = true := by simpa using h1
        have HV := Lib.hid (HV.out.trans (if_pos h1))
        clear h1
        go_enter Try.func29, Try.ntmps29
        go_wp2_with (first | (go_at_call 46; refine HSY.out.mono ?_; rintro e w1 ⟨rfl, hb1⟩; have hb2 := below_alloc' hb1 (Obj.cells #[.int .i64 s.name, .int .i64 s.lo, .int .i64 s.hi] 46); have z8 := (HN.out.mono hb2).c8; have B5 := heap_alloc_new w1 (Obj.cells #[.int .i64 s.name, .int .i64 s.lo, .int .i64 s.hi] 46); have HB2 := Lib.hid hb2; have HS5 := Lib.hid B5; rw [HR0.out] at z8; clear hb1 hb2 B5) | fail)
        generalize w1.alloc (Obj.cells #[.int .i64 s.name, .int .i64 s.lo, .int .i64 s.hi] 46) = w2 at HB2 HS5 z8 ⊢
        have H2 := Lib.hid (H.out.mono HB2.out)
        have HN2 := Lib.hid (HN.out.mono HB2.out)
        clear z8
        obtain ⟨br, hbr⟩ : ∃ b, b = readB k.W x s := ⟨_, rfl⟩
        have HR := Lib.hid (show Calls Try.prog 47 #[.pointer (some ⟨k.p, 0, none⟩), .pointer (some na), .agg #[.int .i64 s.name, .int .i64 s.lo, .int .i64 s.hi]] w2 fun e w' => e = .returned (.bool br) ∧ Below w2.heap.size w2 w' by
          rw [hbr]; exact read_ok H2.out F HN2.out HSH.out.i0 HSH.out.j1 s)
        refine HR.out.mono ?_
        rintro e w3 ⟨rfl, hb3⟩
        have HB3 := Lib.hid (below_trans HB2.out hb3)
        have H3 := Lib.hid (H2.out.mono hb3)
        have HN3 := Lib.hid (HN2.out.mono hb3)
        have s0 : w3.cell? ⟨w1.heap.size, 0, none⟩ = some (.int .i64 s.name) := blk_cell (blk_below HS5.out hb3) 0
        have z9 := HN3.out.c9
        clear hb3
        cases br with
        | false =>
          have HZ := Lib.hid (show stopsB k.C k.G k.W x = decide (x.picks.length = 0) by rw [HV.out, ← hbr]; cases x.picks <;> simp)
          clear hbr
          go_wp2_with fail
          go_ret
          exact ⟨by rw [HZ.out]; exact ret_bool (by rw [Bool.eq_iff_iff, beq_iff_eq, decide_eq_true_eq]; omega), HB3.out⟩
        | true =>
          have hij : x.i < x.j := by
            unfold readB at hbr
            have := hbr.symm
            simp only [Bool.and_eq_true, decide_eq_true_eq] at this
            exact this.1.1
          have HO := Lib.hid (on_ok H3.out F HN3.out HSH.out hij HPL.out false)
          have HZ := Lib.hid (show stopsB k.C k.G k.W x = onB k.C x false by rw [HV.out, ← hbr]; rfl)
          clear hbr hij s0 z9
          go_wp2_with (first | (go_at_call 48; refine HO.out.mono ?_; rintro e w4 ⟨rfl, hb4⟩; have HB4 := Lib.hid (below_trans HB3.out hb4); clear hb4) | fail)
          go_ret
          exact ⟨by rw [HZ.out]; rfl, HB4.out⟩
      · have d1 : decide (s.name < 0) = false := by simpa using h1
        have HV := Lib.hid (HV.out.trans (if_neg h1))
        clear h1
        have hW := F.W32
        have i0 := HSH.out.i0
        have ij := HSH.out.ij
        have j1 := HSH.out.j1
        have e1 : IntKind.i64.wrap (x.j - x.i) = x.j - x.i := IntWalk.i64_in _ (by omega)
        have e2 : IntKind.i64.wrap (x.j - x.i + 1) = x.j - x.i + 1 := IntWalk.i64_in _ (by omega)
        go_enter Try.func29, Try.ntmps29
        go_wp2_with (first | (go_at_call 46; refine HSY.out.mono ?_; rintro e w1 ⟨rfl, hb1⟩; have hb2 := below_alloc' hb1 (Obj.cells #[.int .i64 s.name, .int .i64 s.lo, .int .i64 s.hi] 46); have z8 := (HN.out.mono hb2).c8; have B5 := heap_alloc_new w1 (Obj.cells #[.int .i64 s.name, .int .i64 s.lo, .int .i64 s.hi] 46); have HB2 := Lib.hid hb2; have HS5 := Lib.hid B5; rw [HR0.out] at z8; clear hb1 hb2 B5) | fail)
        obtain ⟨b5, hb5⟩ : ∃ b, b = w1.heap.size := ⟨_, rfl⟩
        rw [← hb5] at HS5 ⊢
        clear hb5
        generalize w1.alloc (Obj.cells #[.int .i64 s.name, .int .i64 s.lo, .int .i64 s.hi] 46) = w2 at HB2 HS5 z8 ⊢
        have H2 := Lib.hid (H.out.mono HB2.out)
        have HN2 := Lib.hid (HN.out.mono HB2.out)
        have s0 : w2.cell? ⟨b5, 0, none⟩ = some (.int .i64 s.name) := blk_cell HS5.out 0
        have Z6 := Lib.hid HN2.out.c6
        have Z7 := Lib.hid HN2.out.c7
        have Z9 := Lib.hid HN2.out.c9
        clear z8
        go_wp2_with fail
        by_cases h2 : (x.picks.length : Int) = x.j - x.i + 1
        · have d2 : ((x.picks.length : Int) != x.j - x.i + 1) = false := by simp [h2]
          have HV := Lib.hid (show stopsB k.C k.G k.W x = (List.range x.picks.length).all (wantAt k.C x s.name) by rw [HV.out, decide_eq_true h2]; rfl)
          have HH2 := Lib.hid h2
          clear h2
          refine wp_region_below (by kernel_rfl) (by kernel_rfl) ?_
          repeat (first
            | (refine qv_skip (by rfl) ?_; simp only [Act.put, List.setIfInBounds_toArray, List.set_cons_zero, List.set_cons_succ])
            | (refine qv_val' (by rfl) ?_; apply Exists.intro; refine ⟨fun w5 hC => ?_, ?_⟩; (have qqr0 := below_cell hC Z6.out; have qqr1 := below_cell hC Z7.out; have qqr2 := below_cell hC Z9.out; go_simp; rfl); simp only [Act.put, List.setIfInBounds_toArray, List.set_cons_zero, List.set_cons_succ]))
          refine qv_nil ?_
          intro w5 hC
          have HB3 := Lib.hid (below_trans HB2.out hC)
          have H3 := Lib.hid (H2.out.mono hC)
          have HN3 := Lib.hid (HN2.out.mono hC)
          have HS3 := Lib.hid (blk_below HS5.out hC)
          clear hC
          have z9 := HN3.out.c9
          clear Z6 Z7 Z9 s0 d2 e1 e2
          go_wp2_with fail
          clear z9
          obtain ⟨w3, hw3⟩ : ∃ w3, w3 = w5 := ⟨_, rfl⟩
          rw [← hw3] at HB3 H3 HN3 HS3 ⊢
          clear hw3 w5
          go_loopw [85] (fun cnt wr => RangeTo x.picks.length (wantAt k.C x s.name) w3 cnt wr) (fun cnt _ => x.picks.length - (intOf cnt).toNat)
          case atStart => exact ⟨0, rfl, Nat.zero_le _, rfl, below_refl _⟩
          case round =>
            obtain ⟨i, rfl, hi, hall, hb⟩ := hrel
            have HB := Lib.hid hb
            have HA := Lib.hid hall
            have H4 := Lib.hid (H3.out.mono hb)
            have HN4 := Lib.hid (HN3.out.mono hb)
            have S0 := Lib.hid (show wr.cell? ⟨b5, 0, none⟩ = some (.int .i64 s.name) from blk_cell (blk_below HS3.out hb) 0)
            clear hb hall
            by_cases hlt : i < x.picks.length
            · obtain ⟨p, hp⟩ : ∃ p, x.picks[i]? = some p := ⟨_, List.getElem?_eq_getElem hlt⟩
              obtain ⟨pd, A1, c1, eA, hPk⟩ := pck_at HN4.out.pk hp
              subst eA
              have b1 : (i : Int) < x.picks.length := by omega
              have e3 : IntKind.i64.wrap (x.i + (i : Int)) = x.i + i := IntWalk.i64_in _ (by have := HH2.out; omega)
              have Z9 := Lib.hid HN4.out.c9
              have Z6 := Lib.hid HN4.out.c6
              have HPk := Lib.hid hPk
              obtain ⟨bl, hbl⟩ : ∃ bl, bl = wantsB k.C x s.name (x.i + i) p := ⟨_, rfl⟩
              have HW := Lib.hid (show wantAt k.C x s.name i = bl by unfold wantAt; rw [hp, hbl])
              have HC := Lib.hid (show ∀ w5, Below wr.heap.size wr w5 → Calls Try.prog 50 #[.pointer (some ⟨k.p, 0, none⟩), .pointer (some na), .pointer (some (pd.add (i * 3))), .int .i64 (x.i + i), .int .i64 s.name] w5 fun e w' => e = .returned (.bool bl) ∧ Below w5.heap.size w5 w' from fun w5 hC => by
                rw [hbl]; exact wants_ok (H4.out.mono hC) F (HN4.out.mono hC) HPL.out (HPk.out.mono hC) (x.i + i) s.name)
              clear hbl hPk hp
              go_wp2_with fail
              cases bl with
              | false =>
                refine wp_region_below (by kernel_rfl) (by kernel_rfl) ?_
                repeat (first
                  | (refine qv_skip (by rfl) ?_; simp only [Act.put, List.setIfInBounds_toArray, List.set_cons_zero, List.set_cons_succ])
                  | (refine qv_val' (by rfl) ?_; apply Exists.intro; refine ⟨fun w5 hC => ?_, ?_⟩; (have qqr0 := below_cell hC S0.out; have qqr1 := below_cell hC Z9.out; have qqr2 := below_cell hC Z6.out; go_simp; rfl); simp only [Act.put, List.setIfInBounds_toArray, List.set_cons_zero, List.set_cons_succ])
                  | (refine qv_call' (by rfl) ?_; apply Exists.intro; apply Exists.intro; apply Exists.intro; refine ⟨fun w5 hC => ?_, fun w5 hC => ?_, ?_⟩; (go_simp; first | rfl | exact ⟨rfl, rfl⟩); (first | (go_at_call 50; exact calls_in hC (HC.out w5 hC))); simp only [Act.put, List.setIfInBounds_toArray, List.set_cons_zero, List.set_cons_succ]))
                refine qv_nil ?_
                intro w5 hC
                have HB5 := Lib.hid (below_trans HB3.out (below_trans HB.out hC))
                clear hC e3
                go_wp2_with fail
                go_ret
                exact ⟨by rw [HV.out, range_bad hlt HW.out]; rfl, HB5.out⟩
              | true =>
                refine wp_region_below (by kernel_rfl) (by kernel_rfl) ?_
                repeat (first
                  | (refine qv_skip (by rfl) ?_; simp only [Act.put, List.setIfInBounds_toArray, List.set_cons_zero, List.set_cons_succ])
                  | (refine qv_val' (by rfl) ?_; apply Exists.intro; refine ⟨fun w5 hC => ?_, ?_⟩; (have qqr0 := below_cell hC S0.out; have qqr1 := below_cell hC Z9.out; have qqr2 := below_cell hC Z6.out; go_simp; rfl); simp only [Act.put, List.setIfInBounds_toArray, List.set_cons_zero, List.set_cons_succ])
                  | (refine qv_call' (by rfl) ?_; apply Exists.intro; apply Exists.intro; apply Exists.intro; refine ⟨fun w5 hC => ?_, fun w5 hC => ?_, ?_⟩; (go_simp; first | rfl | exact ⟨rfl, rfl⟩); (first | (go_at_call 50; exact calls_in hC (HC.out w5 hC))); simp only [Act.put, List.setIfInBounds_toArray, List.set_cons_zero, List.set_cons_succ]))
                refine qv_nil ?_
                intro w5 hC
                have HB5 := Lib.hid (below_trans HB.out hC)
                clear hC e3
                go_wp2_with fail
                go_roundw
                case rel => exact ⟨i + 1, by go_num, by omega, by rw [range_succ_all, HA.out, HW.out]; rfl, HB5.out⟩
                case measure => simp [intOf]; omega
            · have hie : i = x.picks.length := by omega
              subst hie
              go_wp2_with fail
              go_ret
              exact ⟨by rw [HV.out, HA.out]; rfl, below_trans HB3.out HB.out⟩
        · have d2 : ((x.picks.length : Int) != x.j - x.i + 1) = true := by simpa using h2
          have HZ := Lib.hid (show stopsB k.C k.G k.W x = false by rw [HV.out, decide_eq_false h2]; rfl)
          clear h2
          refine wp_region_below (by kernel_rfl) (by kernel_rfl) ?_
          repeat (first
            | (refine qv_skip (by rfl) ?_; simp only [Act.put, List.setIfInBounds_toArray, List.set_cons_zero, List.set_cons_succ])
            | (refine qv_val' (by rfl) ?_; apply Exists.intro; refine ⟨fun w5 hC => ?_, ?_⟩; (have qqr0 := below_cell hC Z6.out; have qqr1 := below_cell hC Z7.out; have qqr2 := below_cell hC Z9.out; go_simp; rfl); simp only [Act.put, List.setIfInBounds_toArray, List.set_cons_zero, List.set_cons_succ]))
          refine qv_nil ?_
          intro w5 hC
          have HB3 := Lib.hid (below_trans HB2.out hC)
          clear hC e1 e2
          go_wp2_with fail
          go_ret
          exact ⟨by rw [HZ.out]; rfl, HB3.out⟩
    · have d0 : (x.rank != 0) = true := by simpa using h0
      have HZ := Lib.hid (show stopsB k.C k.G k.W x = false by unfold stopsB; rw [decide_eq_false h0]; rfl)
      clear h0 hs
      go_enter Try.func29, Try.ntmps29
      go_wp2_with (first | (go_at_call 46; refine HSY.out.mono ?_; rintro e w1 ⟨rfl, hb1⟩; have hb2 := below_alloc' hb1 (Obj.cells #[.int .i64 s.name, .int .i64 s.lo, .int .i64 s.hi] 46); have z8 := (HN.out.mono hb2).c8; have B5 := heap_alloc_new w1 (Obj.cells #[.int .i64 s.name, .int .i64 s.lo, .int .i64 s.hi] 46); have HB2 := Lib.hid hb2; have HS5 := Lib.hid B5; clear hb1 hb2 B5) | fail)
      go_ret
      exact ⟨by rw [HZ.out]; rfl, HB2.out⟩
end Go.Proofs.Ytfmfoiecphhhiaa
