/-
  H6: the checker's rule, has.
-/
import Derived.Test.YtfmfoiecphhhiaaH5
set_option linter.unusedSimpArgs false
set_option linter.unusedVariables false
namespace Go.Proofs.Ytfmfoiecphhhiaa
open Go.RowKit

set_option maxRecDepth 100000 in
set_option maxHeartbeats 8000000 in
theorem rule_ok {w : World} {k : CK} (h : CkAt w k) (F : k.Fits) {na : Addr} {x : Nod} {A : Option Addr} {c : Nat} (hn : NodAt w na x A c) {pa : Addr} {p : Pck} {Ap : Option Addr} {cp : Nat} (hp : PckAt w pa p Ap cp) :
    Calls Try.prog 43 #[.pointer (some ⟨k.p, 0, none⟩), .pointer (some na), .pointer (some pa)] w fun e w' => e = .returned (.bool (ruleOK k.C k.G x p)) ∧ Below w.heap.size w w' := by
  have hR := F.may.rules
  have hl1 := hp.l1
  have hl2 := hp.l2
  have p0 := h.p0
  have g2 := h.g2
  have z2 := hn.c2
  have y0 := hp.c0
  have y2 := hp.c2
  have H := Lib.hid h
  have HN := Lib.hid hn
  have HP := Lib.hid hp
  clear h hn hp
  by_cases h1 : p.sp < 0
  · have HZ := Lib.hid (show ruleOK k.C k.G x p = false by unfold ruleOK; rw [if_pos h1])
    have d1 : decide (p.sp < 0) = true := by simpa using h1
    clear h1
    go_enter Try.func43, Try.ntmps43
    go_wp2_with fail
    go_quiet (fail)
    go_wp2_with fail
    go_ret
    exact ⟨by rw [HZ.out]; rfl, pw_below_drewN (below_refl _) _⟩
  · have d1 : decide (p.sp < 0) = false := by simpa using h1
    cases hx : k.G.rules[p.sp.toNat]? with
    | none =>
      have hge := List.getElem?_eq_none_iff.1 hx
      have HZ := Lib.hid (show ruleOK k.C k.G x p = false by unfold ruleOK; rw [if_neg h1, hx])
      have d2 : decide ((k.G.rules.length : Int) ≤ p.sp) = true := decide_eq_true (by omega)
      clear h1 hx hge
      go_enter Try.func43, Try.ntmps43
      go_wp2_with fail
      go_quiet (fail)
      go_wp2_with fail
      go_ret
      exact ⟨by rw [HZ.out]; rfl, pw_below_drewN (below_refl _) _⟩
    | some r =>
      have hlt := (List.getElem?_eq_some_iff.1 hx).1
      obtain ⟨n, hnn⟩ : ∃ n : Nat, p.sp = (n : Int) := ⟨p.sp.toNat, by omega⟩
      have hx' : k.G.rules[n]? = some r := by rw [hnn] at hx; simpa using hx
      have HZ0 := Lib.hid (show ruleOK k.C k.G x p = (decide (r.head = x.name) && decide (p.kids.length = r.conj.length) && (List.range p.kids.length).all (ruleKid k.C x p r.conj)) by unfold ruleOK; rw [if_neg h1, hx])
      obtain ⟨rd, Ac, cc, eA, -, r0, r1, -, -, hCC⟩ := rul_at H.out.rul hx'
      rw [eA] at g2
      rw [hnn] at y0
      have d2 : decide ((k.G.rules.length : Int) ≤ (n : Int)) = false := decide_eq_false (by omega)
      have d2' : decide (k.G.rules.length ≤ n) = false := decide_eq_false (by omega)
      have d1 : decide ((n : Int) < 0) = false := by simp
      have b1 : (n : Int) < k.G.rules.length := by omega
      have hcl := F.conj8 n r hx'
      have HNN := Lib.hid hnn
      have HX := Lib.hid hx'
      have HCC := Lib.hid hCC
      have HEA := Lib.hid eA
      clear h1 hx hx' hnn hCC eA
      by_cases h3 : r.head = x.name
      · have d3 : (r.head != x.name) = false := by simp [h3]
        by_cases h4 : p.kids.length = r.conj.length
        · have d4 : ((p.kids.length : Int) != (r.conj.length : Int)) = false := by simp [h4]
          have d4' : (p.kids.length != r.conj.length) = false := by simp [h4]
          have HZ := Lib.hid (show ruleOK k.C k.G x p = (List.range p.kids.length).all (ruleKid k.C x p r.conj) by rw [HZ0.out, decide_eq_true h3, decide_eq_true h4]; rfl)
          have H4 := Lib.hid h4
          clear h3 h4 HZ0
          go_enter Try.func43, Try.ntmps43
          go_wp2_with fail
          go_quiet (fail)
          have hbd := pw_below_drewN (below_refl w) nq
          have y2' := Lib.hid (below_cell hbd y2)
          generalize w.drewN nq = w0 at hbd y2' ⊢
          have H := Lib.hid (H.out.mono hbd)
          have HN := Lib.hid (HN.out.mono hbd)
          have HP := Lib.hid (HP.out.mono hbd)
          have HCC := Lib.hid (HCC.out.mono hbd)
          have HB0 := Lib.hid hbd
          have q2 := y2'.out
          have HR0 := Lib.hid (below_cell hbd r1)
          clear hbd p0 g2 z2 y0 y2 r0 r1 d1 d2 d3 d4 d2' d4'
          go_wp2_with fail
          clear q2
          go_loopw [78] (fun cnt wr => RangeTo p.kids.length (ruleKid k.C x p r.conj) w0 cnt wr) (fun cnt _ => p.kids.length - (intOf cnt).toNat)
          case atStart => exact ⟨0, rfl, Nat.zero_le _, rfl, below_refl _⟩
          case round =>
            obtain ⟨q, rfl, hq, hall, hb⟩ := hrel
            have HB := Lib.hid hb
            have HA := Lib.hid hall
            have H2 := Lib.hid (H.out.mono hb)
            have HN2 := Lib.hid (HN.out.mono hb)
            have HP2 := Lib.hid (HP.out.mono hb)
            have HCC2 := Lib.hid (HCC.out.mono hb)
            have r1 := Lib.hid (below_cell hb HR0.out)
            clear hb hall
            by_cases hltq : q < p.kids.length
            · obtain ⟨kd, hkd⟩ : ∃ kd, p.kids[q]? = some kd := ⟨_, List.getElem?_eq_getElem hltq⟩
              obtain ⟨y, hy⟩ : ∃ y, r.conj[q]? = some y := ⟨_, List.getElem?_eq_getElem (by rw [← H4.out]; exact hltq)⟩
              obtain ⟨ad, eK, v0⟩ := Rd.C.one HP2.out.kd hkd
              subst eK
              obtain ⟨cd, As, cs, eC, -, s0, -⟩ := conj_at HCC2.out hy
              subst eC
              have b2 : (q : Int) < p.kids.length := by omega
              have b3 : (q : Int) < r.conj.length := by rw [← H4.out]; exact b2
              have p0 := Lib.hid H2.out.p0
              have g2 := Lib.hid (show wr.cell? ⟨k.g, 2, none⟩ = some (.slice (some rd) k.G.rules.length k.xr) by rw [H2.out.g2, HEA.out])
              have y0 := Lib.hid (show wr.cell? pa = some (.int .i64 (n : Int)) by rw [HP2.out.c0, HNN.out])
              have z6 := Lib.hid HN2.out.c6
              have z7 := Lib.hid HN2.out.c7
              have s0 := Lib.hid s0
              obtain ⟨bl, hbl⟩ : ∃ bl, bl = isB k.C kd (!y.neg) (seqKey ⟨(n : Int), q, 0⟩ x.i x.j) := ⟨_, rfl⟩
              have HRK := Lib.hid (show ruleKid k.C x p r.conj q = bl by unfold ruleKid; rw [hkd, hy, hbl, HNN.out])
              have HI := Lib.hid (show ∀ w5, Below wr.heap.size wr w5 → Calls Try.prog 15 #[.pointer (some ⟨k.p, 0, none⟩), .int .i64 kd, .bool (!y.neg), kyV (seqKey ⟨(n : Int), q, 0⟩ x.i x.j)] w5 fun e w' => e = .returned (.bool bl) ∧ Below w5.heap.size w5 w' from fun w5 hC => by
                rw [hbl]; exact is_kid (H2.out.mono hC) F kd (!y.neg) (seqKey ⟨(n : Int), q, 0⟩ x.i x.j))
              clear hbl hkd hy
              go_wp2_with fail
              clear v0
              cases bl with
              | true =>
                refine wp_region_below (by kernel_rfl) (by kernel_rfl) ?_
                repeat (first
                  | (refine qv_skip (by rfl) ?_; simp only [Act.put, List.setIfInBounds_toArray, List.set_cons_zero, List.set_cons_succ])
                  | (refine qv_val' (by rfl) ?_; apply Exists.intro; refine ⟨fun w5 hC => ?_, ?_⟩; (have qqr0 := below_cell hC p0.out; have qqr1 := below_cell hC g2.out; have qqr2 := below_cell hC r1.out; have qqr3 := below_cell hC y0.out; have qqr4 := below_cell hC z6.out; have qqr5 := below_cell hC z7.out; have qqr6 := below_cell hC s0.out; go_simp; rfl); simp only [Act.put, List.setIfInBounds_toArray, List.set_cons_zero, List.set_cons_succ])
                  | (refine qv_call' (by rfl) ?_; apply Exists.intro; apply Exists.intro; apply Exists.intro; refine ⟨fun w5 hC => ?_, fun w5 hC => ?_, ?_⟩; (go_simp; first | rfl | exact ⟨rfl, rfl⟩); (first | (go_at_call 58; exact calls_in hC (rest_key ⟨(n : Int), q, 0⟩ x.i x.j w5)) | (go_at_call 15; exact calls_in hC (HI.out w5 hC))); simp only [Act.put, List.setIfInBounds_toArray, List.set_cons_zero, List.set_cons_succ]))
                refine qv_nil ?_
                intro w5 hC
                have HB5 := Lib.hid (below_trans HB.out hC)
                clear hC
                go_wp2_with fail
                go_roundw
                case rel => exact ⟨q + 1, by go_num, by omega, by rw [range_succ_all, HA.out, HRK.out]; rfl, HB5.out⟩
                case measure => simp [intOf]; omega
              | false =>
                refine wp_region_below (by kernel_rfl) (by kernel_rfl) ?_
                repeat (first
                  | (refine qv_skip (by rfl) ?_; simp only [Act.put, List.setIfInBounds_toArray, List.set_cons_zero, List.set_cons_succ])
                  | (refine qv_val' (by rfl) ?_; apply Exists.intro; refine ⟨fun w5 hC => ?_, ?_⟩; (have qqr0 := below_cell hC p0.out; have qqr1 := below_cell hC g2.out; have qqr2 := below_cell hC r1.out; have qqr3 := below_cell hC y0.out; have qqr4 := below_cell hC z6.out; have qqr5 := below_cell hC z7.out; have qqr6 := below_cell hC s0.out; go_simp; rfl); simp only [Act.put, List.setIfInBounds_toArray, List.set_cons_zero, List.set_cons_succ])
                  | (refine qv_call' (by rfl) ?_; apply Exists.intro; apply Exists.intro; apply Exists.intro; refine ⟨fun w5 hC => ?_, fun w5 hC => ?_, ?_⟩; (go_simp; first | rfl | exact ⟨rfl, rfl⟩); (first | (go_at_call 58; exact calls_in hC (rest_key ⟨(n : Int), q, 0⟩ x.i x.j w5)) | (go_at_call 15; exact calls_in hC (HI.out w5 hC))); simp only [Act.put, List.setIfInBounds_toArray, List.set_cons_zero, List.set_cons_succ]))
                refine qv_nil ?_
                intro w5 hC
                have HB5 := Lib.hid (below_trans HB.out hC)
                clear hC
                go_wp2_with fail
                go_ret
                exact ⟨by rw [HZ.out, range_bad hltq HRK.out]; rfl, below_trans HB0.out HB5.out⟩
            · have hqe : q = p.kids.length := by omega
              subst hqe
              go_wp2_with fail
              go_ret
              exact ⟨by rw [HZ.out, HA.out]; rfl, below_trans HB0.out HB.out⟩
        · have d4 : ((p.kids.length : Int) != (r.conj.length : Int)) = true := by simp; omega
          have d4' : (p.kids.length != r.conj.length) = true := by simp; omega
          have HZ := Lib.hid (show ruleOK k.C k.G x p = false by rw [HZ0.out, decide_eq_false h4]; simp)
          clear h3 h4 HZ0
          go_enter Try.func43, Try.ntmps43
          go_wp2_with fail
          go_quiet (fail)
          go_wp2_with fail
          go_ret
          exact ⟨by rw [HZ.out]; rfl, pw_below_drewN (below_refl _) _⟩
      · have d3 : (r.head != x.name) = true := by simp [h3]
        have HZ := Lib.hid (show ruleOK k.C k.G x p = false by rw [HZ0.out, decide_eq_false h3]; rfl)
        clear h3 HZ0
        go_enter Try.func43, Try.ntmps43
        go_wp2_with fail
        go_quiet (fail)
        go_wp2_with fail
        go_ret
        exact ⟨by rw [HZ.out]; rfl, pw_below_drewN (below_refl _) _⟩

set_option maxRecDepth 100000 in
set_option maxHeartbeats 8000000 in
theorem has_ok {w : World} {k : CK} (h : CkAt w k) (F : k.Fits) {na : Addr} {x : Nod} {A : Option Addr} {c : Nat} (hn : NodAt w na x A c) (hk : kidsIn k.C x = true) :
    Calls Try.prog 26 #[.pointer (some ⟨k.p, 0, none⟩), .pointer (some na)] w fun e w' => e = .returned (.bool (hasOK k.C k.G x)) ∧ Below w.heap.size w w' := by
  have hl1 := hn.l1
  have hl2 := hn.l2
  have z9 := hn.c9
  have H := Lib.hid h
  have HN := Lib.hid hn
  have HK := Lib.hid hk
  clear h hn hk
  obtain ⟨br, hbr⟩ : ∃ br, br = risingB x.picks := ⟨_, rfl⟩
  have HRI := Lib.hid (show Calls Try.prog 42 #[.slice A x.picks.length c] w fun e w' => e = .returned (.bool br) ∧ Below w.heap.size w w' by rw [hbr]; exact rising_any hl1 hl2 HN.out.pk)
  cases br with
  | false =>
    have HZ := Lib.hid (show hasOK k.C k.G x = false by unfold hasOK; rw [← hbr]; rfl)
    clear hbr
    go_enter Try.func26, Try.ntmps26
    go_wp2_with (first | (go_at_call 42; refine HRI.out.mono ?_; rintro e w1 ⟨rfl, hb1⟩; have HB1 := Lib.hid hb1; clear hb1) | fail)
    go_ret
    exact ⟨by rw [HZ.out]; rfl, HB1.out⟩
  | true =>
    have HZ := Lib.hid (show hasOK k.C k.G x = (x.picks.all (ruleOK k.C k.G x) && rankedB k.C x) by unfold hasOK; rw [← hbr]; rfl)
    clear hbr
    go_enter Try.func26, Try.ntmps26
    go_wp2_with (first | (go_at_call 42; refine HRI.out.mono ?_; rintro e w1 ⟨rfl, hb1⟩; have HB1 := Lib.hid hb1; have z9' := below_cell hb1 z9; clear hb1) | fail)
    clear z9 z9'
    go_loopw [17] (fun cnt wr => AllTo x.picks (ruleOK k.C k.G x) w cnt wr) (fun cnt _ => x.picks.length - (intOf cnt).toNat)
    case atStart => exact ⟨0, rfl, Nat.zero_le _, rfl, HB1.out⟩
    case round =>
      obtain ⟨i, rfl, hi, hall, hb⟩ := hrel
      have HB := Lib.hid hb
      have HA := Lib.hid hall
      have H2 := Lib.hid (H.out.mono hb)
      have HN2 := Lib.hid (HN.out.mono hb)
      clear hb hall
      by_cases hlt : i < x.picks.length
      · obtain ⟨p, hp⟩ : ∃ p, x.picks[i]? = some p := ⟨_, List.getElem?_eq_getElem hlt⟩
        obtain ⟨pd, A1, c1, eA, hPk⟩ := pck_at HN2.out.pk hp
        subst eA
        have b1 : (i : Int) < x.picks.length := by omega
        have z9 := HN2.out.c9
        have HQ := Lib.hid hp
        obtain ⟨bl, hbl⟩ : ∃ bl, bl = ruleOK k.C k.G x p := ⟨_, rfl⟩
        have HC := Lib.hid (show Calls Try.prog 43 #[.pointer (some ⟨k.p, 0, none⟩), .pointer (some na), .pointer (some (pd.add (i * 3)))] wr fun e w' => e = .returned (.bool bl) ∧ Below wr.heap.size wr w' by rw [hbl]; exact rule_ok H2.out F HN2.out hPk)
        have HBL := Lib.hid hbl
        clear hbl hPk hp
        cases bl with
        | false =>
          go_wp2_with (first | (go_at_call 43; refine HC.out.mono ?_; rintro e w2 ⟨rfl, hb2⟩; have HB2 := Lib.hid hb2; clear hb2) | fail)
          go_ret
          exact ⟨by rw [HZ.out, all_bad HQ.out HBL.out.symm]; rfl, below_trans HB.out HB2.out⟩
        | true =>
          go_wp2_with (first | (go_at_call 43; refine HC.out.mono ?_; rintro e w2 ⟨rfl, hb2⟩; have HB2 := Lib.hid hb2; clear hb2) | fail)
          go_roundw
          case rel => exact ⟨i + 1, by go_num, by omega, by rw [all_take HQ.out, HA.out, ← HBL.out]; rfl, below_trans HB.out HB2.out⟩
          case measure => simp [intOf]; omega
      · have hie : i = x.picks.length := by omega
        have HE := Lib.hid (show x.picks.all (ruleOK k.C k.G x) = true by have := HA.out; rw [hie, List.take_length] at this; exact this)
        have HC := Lib.hid (ranked_any H2.out F HN2.out HK.out)
        subst hie
        go_wp2_with (first | (go_at_call 44; refine HC.out.mono ?_; rintro e w2 ⟨rfl, hb2⟩; have HB2 := Lib.hid hb2; clear hb2) | fail)
        go_ret
        exact ⟨by rw [HZ.out, HE.out]; rfl, below_trans HB.out HB2.out⟩
end Go.Proofs.Ytfmfoiecphhhiaa
