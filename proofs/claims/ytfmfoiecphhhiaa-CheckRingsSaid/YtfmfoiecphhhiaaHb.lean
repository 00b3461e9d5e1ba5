/-
  Hb: the checker's fails, lacks.
-/
import Derived.Test.YtfmfoiecphhhiaaH8b
set_option linter.unusedSimpArgs false
set_option linter.unusedVariables false
namespace Go.Proofs.Ytfmfoiecphhhiaa
open Go.RowKit

set_option maxRecDepth 100000 in
set_option maxHeartbeats 8000000 in
theorem fails_ok {w : World} {k : CK} (h : CkAt w k) (F : k.Fits) {na : Addr} {x : Nod} {A : Option Addr} {c : Nat} (hn : NodAt w na x A c) {r : Nat} {X : Rul} (hX : k.G.rules[r]? = some X) {pa : Addr} {p : Pck} {Ap : Option Addr} {cp : Nat} (hp : PckAt w pa p Ap cp) :
    Calls Try.prog 45 #[.pointer (some ⟨k.p, 0, none⟩), .pointer (some na), .int .i64 r, .pointer (some pa)] w fun e w' => e = .returned (.bool (failsB k.C x r X.conj p)) ∧ Below w.heap.size w w' := by
  have hR := F.may.rules
  have hcl := F.conj8 r X hX
  have hrl := (List.getElem?_eq_some_iff.1 hX).1
  obtain ⟨rd, Ac, cc, eA, -, -, r1, -, -, hCC⟩ := rul_at h.rul hX
  have g2 := h.g2
  rw [eA] at g2
  have P0 := Lib.hid h.p0
  have G2 := Lib.hid g2
  have R1 := Lib.hid r1
  have Y0 := Lib.hid hp.c0
  have Y1 := Lib.hid hp.c1
  have y2 := hp.c2
  have Z6 := Lib.hid hn.c6
  have Z7 := Lib.hid hn.c7
  have hpb := hp.blk
  have hnb := hn.blk
  have H := Lib.hid h
  have HP := Lib.hid hp
  have HCC := Lib.hid hCC
  have b1 : (r : Int) < k.G.rules.length := by omega
  clear h hn hp hX eA g2 r1 hCC
  have Y2 := Lib.hid y2
  by_cases h1 : p.sp = r
  · have d1 : (p.sp != (r : Int)) = false := by simp [h1]
    by_cases h2 : p.cj < 0
    · have d2 : decide (p.cj < 0) = true := by simpa using h2
      have HZ := Lib.hid (show failsB k.C x r X.conj p = false by unfold failsB; rw [if_pos h2]; simp)
      clear h1 h2 y2
      go_enter Try.func45, Try.ntmps45
      go_wp2_with fail
      refine wp_region_below (by kernel_rfl) (by kernel_rfl) ?_
      repeat (first
        | (refine qv_skip (by rfl) ?_; simp only [Act.put, List.setIfInBounds_toArray, List.set_cons_zero, List.set_cons_succ])
        | (refine qv_val' (by rfl) ?_; apply Exists.intro; refine ⟨fun w5 hC => ?_, ?_⟩; (have qqr0 := below_cell hC P0.out; have qqr1 := below_cell hC G2.out; have qqr2 := below_cell hC R1.out; have qqr3 := below_cell hC Y0.out; have qqr4 := below_cell hC Y1.out; have qqr5 := below_cell hC Y2.out; go_simp; rfl); simp only [Act.put, List.setIfInBounds_toArray, List.set_cons_zero, List.set_cons_succ]))
      refine qv_nil ?_
      intro w5 hC
      have HB5 := Lib.hid hC
      clear hC
      go_wp2_with fail
      go_ret
      exact ⟨by rw [HZ.out]; rfl, HB5.out⟩
    · have d2 : decide (p.cj < 0) = false := by simpa using h2
      cases hy : X.conj[p.cj.toNat]? with
      | none =>
        have hge := List.getElem?_eq_none_iff.1 hy
        have d3 : decide ((X.conj.length : Int) ≤ p.cj) = true := decide_eq_true (by omega)
        have HZ := Lib.hid (show failsB k.C x r X.conj p = false by unfold failsB; rw [if_neg h2, hy]; simp)
        clear h1 h2 y2 hy hge
        go_enter Try.func45, Try.ntmps45
        go_wp2_with fail
        refine wp_region_below (by kernel_rfl) (by kernel_rfl) ?_
        repeat (first
          | (refine qv_skip (by rfl) ?_; simp only [Act.put, List.setIfInBounds_toArray, List.set_cons_zero, List.set_cons_succ])
          | (refine qv_val' (by rfl) ?_; apply Exists.intro; refine ⟨fun w5 hC => ?_, ?_⟩; (have qqr0 := below_cell hC P0.out; have qqr1 := below_cell hC G2.out; have qqr2 := below_cell hC R1.out; have qqr3 := below_cell hC Y0.out; have qqr4 := below_cell hC Y1.out; have qqr5 := below_cell hC Y2.out; go_simp; rfl); simp only [Act.put, List.setIfInBounds_toArray, List.set_cons_zero, List.set_cons_succ]))
        refine qv_nil ?_
        intro w5 hC
        have HB5 := Lib.hid hC
        clear hC
        go_wp2_with fail
        go_ret
        exact ⟨by rw [HZ.out]; rfl, HB5.out⟩
      | some y =>
        have hlt := (List.getElem?_eq_some_iff.1 hy).1
        have d3 : decide ((X.conj.length : Int) ≤ p.cj) = false := decide_eq_false (by omega)
        by_cases hk : p.kids.length = 1
        · obtain ⟨kd, hkd⟩ := one_of hk
          obtain ⟨n, hnn⟩ : ∃ n : Nat, p.cj = (n : Int) := ⟨p.cj.toNat, by omega⟩
          have hy' : X.conj[n]? = some y := by rw [hnn] at hy; simpa using hy
          obtain ⟨cd, As, cs, eC, -, s0, -⟩ := conj_at HCC.out hy'
          rw [hk] at y2
          obtain ⟨ad, eK, v0⟩ := Rd.C.one HP.out.kd (i := 0) (x := kd) (by rw [hkd]; rfl)
          rw [add_zero] at v0
          rw [eK] at y2
          have Y2 := Lib.hid y2
          have V0 := Lib.hid v0
          have S0 := Lib.hid s0
          have R1 := Lib.hid (show w.cell? ⟨(rd.add (r * 2)).block, (rd.add (r * 2)).off + 1, none⟩ = some (.slice (some cd) X.conj.length cc) by rw [R1.out, eC])
          have Y1 := Lib.hid (show w.cell? ⟨pa.block, pa.off + 1, none⟩ = some (.int .i64 (n : Int)) by rw [Y1.out, hnn])
          have d2 : decide ((n : Int) < 0) = false := by rw [← hnn]; exact d2
          have d3 : decide ((X.conj.length : Int) ≤ (n : Int)) = false := by rw [← hnn]; exact d3
          have d3' : decide (X.conj.length ≤ n) = false := decide_eq_false (by omega)
          have b2 : (n : Int) < X.conj.length := by omega
          obtain ⟨bl, hbl⟩ : ∃ bl, bl = isB k.C kd y.neg (seqKey ⟨(r : Int), (n : Int), 0⟩ x.i x.j) := ⟨_, rfl⟩
          have HZ := Lib.hid (show failsB k.C x r X.conj p = bl by unfold failsB; rw [if_neg h2, hy, hkd, decide_eq_true h1, hbl, hnn]; rfl)
          have HI := Lib.hid (show ∀ w5, Below w.heap.size w w5 → Calls Try.prog 15 #[.pointer (some ⟨k.p, 0, none⟩), .int .i64 kd, .bool y.neg, kyV (seqKey ⟨(r : Int), (n : Int), 0⟩ x.i x.j)] w5 fun e w' => e = .returned (.bool bl) ∧ Below w5.heap.size w5 w' from fun w5 hC => by
            rw [hbl]; exact is_kid (H.out.mono hC) F kd y.neg _)
          clear h1 h2 y2 hy hy' hk hkd hnn eC s0 eK v0 hbl
          go_enter Try.func45, Try.ntmps45
          go_wp2_with fail
          refine wp_region_below (by kernel_rfl) (by kernel_rfl) ?_
          repeat (first
            | (refine qv_skip (by rfl) ?_; simp only [Act.put, List.setIfInBounds_toArray, List.set_cons_zero, List.set_cons_succ])
            | (refine qv_val' (by rfl) ?_; apply Exists.intro; refine ⟨fun w5 hC => ?_, ?_⟩; (have qqr0 := below_cell hC P0.out; have qqr1 := below_cell hC G2.out; have qqr2 := below_cell hC R1.out; have qqr3 := below_cell hC Y0.out; have qqr4 := below_cell hC Y1.out; have qqr5 := below_cell hC Y2.out; go_simp; rfl); simp only [Act.put, List.setIfInBounds_toArray, List.set_cons_zero, List.set_cons_succ]))
          refine qv_nil ?_
          intro w5 hC
          have P0 := Lib.hid (below_cell hC P0.out)
          have G2 := Lib.hid (below_cell hC G2.out)
          have R1 := Lib.hid (below_cell hC R1.out)
          have Y1 := Lib.hid (below_cell hC Y1.out)
          have Y2 := Lib.hid (below_cell hC Y2.out)
          have V0 := Lib.hid (below_cell hC V0.out)
          have S0 := Lib.hid (below_cell hC S0.out)
          have Z6 := Lib.hid (below_cell hC Z6.out)
          have Z7 := Lib.hid (below_cell hC Z7.out)
          have HI5 := Lib.hid (show ∀ w6, Below w5.heap.size w5 w6 → Calls Try.prog 15 #[.pointer (some ⟨k.p, 0, none⟩), .int .i64 kd, .bool y.neg, kyV (seqKey ⟨(r : Int), (n : Int), 0⟩ x.i x.j)] w6 fun e w' => e = .returned (.bool bl) ∧ Below w6.heap.size w6 w' from fun w6 h6 => HI.out w6 (below_trans hC h6))
          obtain ⟨wa, hwa⟩ : ∃ wa, wa = w5 := ⟨_, rfl⟩
          have HBa := Lib.hid hC
          clear hC hwa HI wa
          go_wp2_with fail
          have ⟨wb, hwb⟩ : ∃ wb, wb = w5 := ⟨_, rfl⟩
          rw [← hwb] at P0 G2 R1 Y1 Y2 V0 S0 Z6 Z7 HI5 HBa ⊢
          clear hwb w5
          refine wp_region_below (by kernel_rfl) (by kernel_rfl) ?_
          repeat (first
            | (refine qv_skip (by rfl) ?_; simp only [Act.put, List.setIfInBounds_toArray, List.set_cons_zero, List.set_cons_succ])
            | (refine qv_val' (by rfl) ?_; apply Exists.intro; refine ⟨fun w5 hC => ?_, ?_⟩; (have qqr0 := below_cell hC P0.out; have qqr1 := below_cell hC G2.out; have qqr2 := below_cell hC R1.out; have qqr3 := below_cell hC Y1.out; have qqr4 := below_cell hC Y2.out; have qqr5 := below_cell hC V0.out; have qqr6 := below_cell hC S0.out; have qqr7 := below_cell hC Z6.out; have qqr8 := below_cell hC Z7.out; go_simp; rfl); simp only [Act.put, List.setIfInBounds_toArray, List.set_cons_zero, List.set_cons_succ])
            | (refine qv_call' (by rfl) ?_; apply Exists.intro; apply Exists.intro; apply Exists.intro; refine ⟨fun w5 hC => ?_, fun w5 hC => ?_, ?_⟩; (go_simp; first | rfl | exact ⟨rfl, rfl⟩); (first | (go_at_call 58; exact calls_in hC (rest_key ⟨(r : Int), (n : Int), 0⟩ x.i x.j w5)) | (go_at_call 15; exact calls_in hC (HI5.out w5 hC))); simp only [Act.put, List.setIfInBounds_toArray, List.set_cons_zero, List.set_cons_succ]))
          refine qv_nil ?_
          intro w5 hC
          have HB5 := Lib.hid (below_trans HBa.out hC)
          clear hC
          go_wp2_with fail
          go_ret
          exact ⟨by rw [HZ.out]; rfl, HB5.out⟩
        · have d4 : ((p.kids.length : Int) != 1) = true := by simp; omega
          have d4' : (p.kids.length != 1) = true := by simpa using hk
          have HZ := Lib.hid (show failsB k.C x r X.conj p = false by
            unfold failsB
            rw [if_neg h2, hy]
            split
            · rename_i a b ha hb; rw [hb] at hk; simp at hk
            · simp)
          clear h1 h2 y2 hy hk
          go_enter Try.func45, Try.ntmps45
          go_wp2_with fail
          refine wp_region_below (by kernel_rfl) (by kernel_rfl) ?_
          repeat (first
            | (refine qv_skip (by rfl) ?_; simp only [Act.put, List.setIfInBounds_toArray, List.set_cons_zero, List.set_cons_succ])
            | (refine qv_val' (by rfl) ?_; apply Exists.intro; refine ⟨fun w5 hC => ?_, ?_⟩; (have qqr0 := below_cell hC P0.out; have qqr1 := below_cell hC G2.out; have qqr2 := below_cell hC R1.out; have qqr3 := below_cell hC Y0.out; have qqr4 := below_cell hC Y1.out; have qqr5 := below_cell hC Y2.out; go_simp; rfl); simp only [Act.put, List.setIfInBounds_toArray, List.set_cons_zero, List.set_cons_succ]))
          refine qv_nil ?_
          intro w5 hC
          have HB5 := Lib.hid hC
          clear hC
          go_wp2_with fail
          go_ret
          exact ⟨by rw [HZ.out]; rfl, HB5.out⟩
  · have d1 : (p.sp != (r : Int)) = true := by simpa using h1
    have HZ := Lib.hid (show failsB k.C x r X.conj p = false by unfold failsB; rw [decide_eq_false h1]; rfl)
    clear h1 y2
    go_enter Try.func45, Try.ntmps45
    go_wp2_with fail
    refine wp_region_below (by kernel_rfl) (by kernel_rfl) ?_
    repeat (first
      | (refine qv_skip (by rfl) ?_; simp only [Act.put, List.setIfInBounds_toArray, List.set_cons_zero, List.set_cons_succ])
      | (refine qv_val' (by rfl) ?_; apply Exists.intro; refine ⟨fun w5 hC => ?_, ?_⟩; (have qqr0 := below_cell hC P0.out; have qqr1 := below_cell hC G2.out; have qqr2 := below_cell hC R1.out; have qqr3 := below_cell hC Y0.out; have qqr4 := below_cell hC Y1.out; have qqr5 := below_cell hC Y2.out; go_simp; rfl); simp only [Act.put, List.setIfInBounds_toArray, List.set_cons_zero, List.set_cons_succ]))
    refine qv_nil ?_
    intro w5 hC
    have HB5 := Lib.hid hC
    clear hC
    go_wp2_with fail
    go_ret
    exact ⟨by rw [HZ.out]; rfl, HB5.out⟩

def LackTo (C : Crt) (G : Gram) (x : Nod) (w : World) (at_ cnt : Value) (wr : World) : Prop :=
  ∃ r : Nat, cnt = .int .i64 r ∧ r ≤ G.rules.length ∧ at_ = .int .i64 (headsN G.rules x.name r) ∧ headsN G.rules x.name r ≤ r ∧ (List.range r).all (lackAt C G x) = true ∧ Below w.heap.size w wr
theorem headsN_le (rs : List Rul) (name : Int) : ∀ n, headsN rs name n ≤ n := by
  intro n
  induction n with
  | zero => exact Nat.le_refl _
  | succ n ih =>
    unfold headsN
    cases rs[n]? with
    | none => simp only; omega
    | some r => simp only; split <;> omega

set_option maxRecDepth 100000 in
set_option maxHeartbeats 8000000 in
theorem lacks_ok {w : World} {k : CK} (h : CkAt w k) (F : k.Fits) {na : Addr} {x : Nod} {A : Option Addr} {c : Nat} (hn : NodAt w na x A c) :
    Calls Try.prog 27 #[.pointer (some ⟨k.p, 0, none⟩), .pointer (some na)] w fun e w' => e = .returned (.bool (lacksB k.C k.G x)) ∧ Below w.heap.size w w' := by
  have hR := F.may.rules
  have hl1 := hn.l1
  have hl2 := hn.l2
  have p0 := h.p0
  have g2 := h.g2
  have H := Lib.hid h
  have HN := Lib.hid hn
  clear h hn
  go_enter Try.func27, Try.ntmps27
  go_wp2_with fail
  clear p0 g2
  go_loopw [5, 15] (fun at_ cnt wr => LackTo k.C k.G x w at_ cnt wr) (fun _ cnt _ => k.G.rules.length - (intOf cnt).toNat)
  case atStart => exact ⟨0, rfl, Nat.zero_le _, rfl, Nat.le_refl _, rfl, below_refl _⟩
  case round =>
    obtain ⟨r, rfl, hr, rfl, hle, hall, hb⟩ := hrel
    have HB := Lib.hid hb
    have HA := Lib.hid hall
    have H2 := Lib.hid (H.out.mono hb)
    have HN2 := Lib.hid (HN.out.mono hb)
    clear hb hall
    by_cases hlt : r < k.G.rules.length
    · obtain ⟨X, hX⟩ : ∃ X, k.G.rules[r]? = some X := ⟨_, List.getElem?_eq_getElem hlt⟩
      obtain ⟨rd, Ac, cc, eA, -, r0, -⟩ := rul_at H2.out.rul hX
      have g2 := H2.out.g2
      rw [eA] at g2
      have P0 := Lib.hid H2.out.p0
      have G2 := Lib.hid g2
      have R0 := Lib.hid r0
      have Z2 := Lib.hid HN2.out.c2
      have b1 : (r : Int) < k.G.rules.length := by omega
      have HX := Lib.hid hX
      obtain ⟨at_, hat⟩ : ∃ a, a = headsN k.G.rules x.name r := ⟨_, rfl⟩
      rw [← hat] at hle ⊢
      have HAT := Lib.hid hat
      clear eA g2 r0 hat
      by_cases h1 : X.head = x.name
      · have d1 : (X.head != x.name) = false := by simp [h1]
        have HL := Lib.hid (show lackAt k.C k.G x r = (match x.picks[at_]? with | none => false | some p => failsB k.C x r X.conj p) by unfold lackAt; rw [hX]; simp only; rw [if_pos h1, HAT.out]; rfl)
        have HH := Lib.hid (show headsN k.G.rules x.name (r + 1) = at_ + 1 by unfold headsN; rw [hX]; simp only; rw [if_pos h1, HAT.out])
        clear h1
        go_wp2_with fail
        refine wp_region_below (by kernel_rfl) (by kernel_rfl) ?_
        repeat (first
          | (refine qv_skip (by rfl) ?_; simp only [Act.put, List.setIfInBounds_toArray, List.set_cons_zero, List.set_cons_succ])
          | (refine qv_val' (by rfl) ?_; apply Exists.intro; refine ⟨fun w5 hC => ?_, ?_⟩; (have qqr0 := below_cell hC P0.out; have qqr1 := below_cell hC G2.out; have qqr2 := below_cell hC R0.out; have qqr3 := below_cell hC Z2.out; go_simp; rfl); simp only [Act.put, List.setIfInBounds_toArray, List.set_cons_zero, List.set_cons_succ]))
        refine qv_nil ?_
        intro w5 hC
        have HB5 := Lib.hid (below_trans HB.out hC)
        have H5 := Lib.hid (H2.out.mono hC)
        have HN5 := Lib.hid (HN2.out.mono hC)
        clear hC
        have z9 := HN5.out.c9
        cases hp : x.picks[at_]? with
        | none =>
          have hge := List.getElem?_eq_none_iff.1 hp
          have d2 : decide ((x.picks.length : Int) ≤ (at_ : Int)) = true := decide_eq_true (by omega)
          have d2' : decide (x.picks.length ≤ at_) = true := decide_eq_true (by omega)
          have HV := Lib.hid (show lackAt k.C k.G x r = false by rw [HL.out, hp])
          clear hp hge hX
          go_wp2_with fail
          go_ret
          exact ⟨by unfold lacksB; rw [range_bad hlt HV.out]; rfl, HB5.out⟩
        | some p =>
          have hlp := (List.getElem?_eq_some_iff.1 hp).1
          have d2 : decide ((x.picks.length : Int) ≤ (at_ : Int)) = false := decide_eq_false (by omega)
          have d2' : decide (x.picks.length ≤ at_) = false := decide_eq_false (by omega)
          obtain ⟨pd, A1, c1, eP, hPk⟩ := pck_at HN5.out.pk hp
          subst eP
          have b2 : (at_ : Int) < x.picks.length := by omega
          obtain ⟨bl, hbl⟩ : ∃ bl, bl = failsB k.C x r X.conj p := ⟨_, rfl⟩
          have HC := Lib.hid (show Calls Try.prog 45 #[.pointer (some ⟨k.p, 0, none⟩), .pointer (some na), .int .i64 r, .pointer (some (pd.add (at_ * 3)))] w5 fun e w' => e = .returned (.bool bl) ∧ Below w5.heap.size w5 w' by
            rw [hbl]; exact fails_ok H5.out F HN5.out hX hPk)
          have HV := Lib.hid (show lackAt k.C k.G x r = bl by rw [HL.out, hp, hbl])
          clear hbl hPk hp hX
          cases bl with
          | false =>
            go_wp2_with (first | (go_at_call 45; refine HC.out.mono ?_; rintro e w6 ⟨rfl, hb6⟩; have HB6 := Lib.hid (below_trans HB5.out hb6); clear hb6) | fail)
            go_ret
            exact ⟨by unfold lacksB; rw [range_bad hlt HV.out]; rfl, HB6.out⟩
          | true =>
            go_wp2_with (first | (go_at_call 45; refine HC.out.mono ?_; rintro e w6 ⟨rfl, hb6⟩; have HB6 := Lib.hid (below_trans HB5.out hb6); clear hb6) | fail)
            go_roundw
            case rel => exact ⟨r + 1, by go_num, by omega, by rw [HH.out]; go_num, by rw [HH.out]; omega, by rw [range_succ_all, HA.out, HV.out]; rfl, HB6.out⟩
            case measure => simp [intOf]; omega
      · have d1 : (X.head != x.name) = true := by simp [h1]
        have HV := Lib.hid (show lackAt k.C k.G x r = true by unfold lackAt; rw [hX]; simp only; rw [if_neg h1])
        have HH := Lib.hid (show headsN k.G.rules x.name (r + 1) = at_ by unfold headsN; rw [hX]; simp only; rw [if_neg h1, HAT.out])
        clear h1 hX
        go_wp2_with fail
        refine wp_region_below (by kernel_rfl) (by kernel_rfl) ?_
        repeat (first
          | (refine qv_skip (by rfl) ?_; simp only [Act.put, List.setIfInBounds_toArray, List.set_cons_zero, List.set_cons_succ])
          | (refine qv_val' (by rfl) ?_; apply Exists.intro; refine ⟨fun w5 hC => ?_, ?_⟩; (have qqr0 := below_cell hC P0.out; have qqr1 := below_cell hC G2.out; have qqr2 := below_cell hC R0.out; have qqr3 := below_cell hC Z2.out; go_simp; rfl); simp only [Act.put, List.setIfInBounds_toArray, List.set_cons_zero, List.set_cons_succ]))
        refine qv_nil ?_
        intro w5 hC
        have HB5 := Lib.hid (below_trans HB.out hC)
        clear hC
        go_wp2_with fail
        go_roundw
        case rel => exact ⟨r + 1, by go_num, by omega, by rw [HH.out], by rw [HH.out]; omega, by rw [range_succ_all, HA.out, HV.out]; rfl, HB5.out⟩
        case measure => simp [intOf]; omega
    · have hre : r = k.G.rules.length := by omega
      have z8 := HN2.out.c8
      have z9 := HN2.out.c9
      have HE := Lib.hid (show lacksB k.C k.G x = (decide (x.rank = 0) && decide (headsN k.G.rules x.name r = x.picks.length)) by unfold lacksB; rw [← hre, HA.out]; rfl)
      subst hre
      obtain ⟨at_, hat⟩ : ∃ a, a = headsN k.G.rules x.name k.G.rules.length := ⟨_, rfl⟩
      rw [← hat] at hle HE ⊢
      clear hat
      by_cases h1 : x.rank = 0
      · rw [h1] at z8
        have HZ := Lib.hid (show lacksB k.C k.G x = decide (at_ = x.picks.length) by rw [HE.out, decide_eq_true h1]; rfl)
        clear h1
        go_wp2_with fail
        go_ret
        exact ⟨by rw [HZ.out]; exact ret_bool (by rw [Bool.eq_iff_iff, beq_iff_eq, decide_eq_true_eq]; omega), HB.out⟩
      · have d1 : (x.rank == 0) = false := by simpa using h1
        have HZ := Lib.hid (show lacksB k.C k.G x = false by rw [HE.out, decide_eq_false h1]; rfl)
        clear h1
        go_wp2_with fail
        go_ret
        exact ⟨by rw [HZ.out]; rfl, HB.out⟩
end Go.Proofs.Ytfmfoiecphhhiaa
