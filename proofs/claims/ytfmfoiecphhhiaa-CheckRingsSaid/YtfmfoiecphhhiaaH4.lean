/-
  H4: the checker's lesser, ranked, rising.
-/
import Derived.Test.YtfmfoiecphhhiaaA7
import Derived.Test.YtfmfoiecphhhiaaH3
set_option linter.unusedSimpArgs false
set_option linter.unusedVariables false
namespace Go.Proofs.Ytfmfoiecphhhiaa
open Go.RowKit

theorem ndAt_nat (C : Crt) (n : Nat) : ndAt C (n : Int) = C.nodes[n]? := by
  unfold ndAt
  rw [if_neg (by omega)]
  simp

set_option maxRecDepth 100000 in
set_option maxHeartbeats 4000000 in
theorem lesser_any {w : World} {k : CK} (h : CkAt w k) (F : k.Fits) {pa : Addr} {p : Pck} {A : Option Addr} {c : Nat} (hp : PckAt w pa p A c) (hk : ∀ q ∈ p.kids, 0 ≤ q ∧ q < k.C.nodes.length) (rank : Int) :
    Calls Try.prog 59 #[.pointer (some ⟨k.p, 0, none⟩), .pointer (some pa), .int .i64 rank] w fun e w' => e = .returned (.bool (lesserB k.C p rank)) ∧ Below w.heap.size w w' := by
  have hN := F.N
  have hl1 := hp.l1
  have hl2 := hp.l2
  have z2 := hp.c2
  have H := Lib.hid h
  have HP := Lib.hid hp
  have HK := Lib.hid hk
  clear h hp hk
  go_enter Try.func59, Try.ntmps59
  go_wp2_with fail
  clear z2
  go_loopw [15] (fun cnt wr => AllTo p.kids (lessK k.C rank) w cnt wr) (fun cnt _ => p.kids.length - (intOf cnt).toNat)
  case atStart => exact ⟨0, rfl, Nat.zero_le _, rfl, below_refl _⟩
  case round =>
    obtain ⟨i, rfl, hi, hall, hb⟩ := hrel
    have HB := Lib.hid hb
    have HA := Lib.hid hall
    have H2 := Lib.hid (H.out.mono hb)
    have HP2 := Lib.hid (HP.out.mono hb)
    clear hb hall
    by_cases hlt : i < p.kids.length
    · obtain ⟨q, hq⟩ : ∃ q, p.kids[i]? = some q := ⟨_, List.getElem?_eq_getElem hlt⟩
      obtain ⟨ad, eA, z0⟩ := Rd.C.one HP2.out.kd hq
      subst eA
      have hqk := HK.out q (List.mem_of_getElem? hq)
      obtain ⟨n, rfl⟩ : ∃ n : Nat, q = (n : Int) := ⟨q.toNat, by omega⟩
      have hn : n < k.C.nodes.length := by omega
      obtain ⟨y, hy⟩ : ∃ y, k.C.nodes[n]? = some y := ⟨_, List.getElem?_eq_getElem hn⟩
      obtain ⟨nd, A1, c1, eA, hNd⟩ := nod_at H2.out.nod hy
      have x2 := H2.out.p2
      have x3 := H2.out.c1
      rw [eA] at x3
      have y0 := hNd.c0
      have y8 := hNd.c8
      have HL := Lib.hid (show lessK k.C rank n = !(y.sign && decide (rank ≤ y.rank)) by unfold lessK; rw [ndAt_nat, hy])
      have HQ := Lib.hid hq
      have b1 : (i : Int) < p.kids.length := by omega
      have b2 : (n : Int) < k.C.nodes.length := by omega
      clear hqk hy eA hNd hq
      cases hs : y.sign with
      | false =>
        rw [hs] at y0
        have HV := Lib.hid (show lessK k.C rank n = true by rw [HL.out, hs]; rfl)
        clear hs y8
        go_wp2_with fail
        go_roundw
        case rel => exact ⟨i + 1, by go_num, by omega, by rw [all_take HQ.out, HA.out, HV.out]; rfl, HB.out⟩
        case measure => simp [intOf]; omega
      | true =>
        rw [hs] at y0
        by_cases hr : rank ≤ y.rank
        · have HV := Lib.hid (show lessK k.C rank n = false by rw [HL.out, hs]; simp [hr])
          have d1 : decide (rank ≤ y.rank) = true := by simpa using hr
          clear hs hr
          go_wp2_with fail
          go_ret
          exact ⟨by unfold lesserB; rw [all_bad HQ.out HV.out]; rfl, HB.out⟩
        · have HV := Lib.hid (show lessK k.C rank n = true by rw [HL.out, hs]; simp [hr])
          have d1 : decide (rank ≤ y.rank) = false := by simpa using hr
          clear hs hr
          go_wp2_with fail
          go_roundw
          case rel => exact ⟨i + 1, by go_num, by omega, by rw [all_take HQ.out, HA.out, HV.out]; rfl, HB.out⟩
          case measure => simp [intOf]; omega
    · have hie : i = p.kids.length := by omega
      subst hie
      go_wp2_with fail
      go_ret
      exact ⟨by unfold lesserB; have := HA.out; rw [List.take_length] at this; rw [this]; rfl, HB.out⟩

theorem kidsIn_at {C : Crt} {x : Nod} (h : kidsIn C x = true) {i : Nat} {p : Pck} (hp : x.picks[i]? = some p) : ∀ q ∈ p.kids, 0 ≤ q ∧ q < C.nodes.length := by
  intro q hq
  unfold kidsIn at h
  have h1 := List.all_eq_true.1 h p (List.mem_of_getElem? hp)
  have h2 := List.all_eq_true.1 h1 q hq
  simpa using h2

set_option maxRecDepth 100000 in
set_option maxHeartbeats 4000000 in
theorem ranked_any {w : World} {k : CK} (h : CkAt w k) (F : k.Fits) {na : Addr} {x : Nod} {A : Option Addr} {c : Nat} (hn : NodAt w na x A c) (hk : kidsIn k.C x = true) :
    Calls Try.prog 44 #[.pointer (some ⟨k.p, 0, none⟩), .pointer (some na)] w fun e w' => e = .returned (.bool (rankedB k.C x)) ∧ Below w.heap.size w w' := by
  have hl1 := hn.l1
  have hl2 := hn.l2
  have z8 := hn.c8
  have z9 := hn.c9
  have H := Lib.hid h
  have HN := Lib.hid hn
  have HK := Lib.hid hk
  clear h hn hk
  by_cases h1 : x.rank < 1
  · have HZ := Lib.hid (show rankedB k.C x = false by unfold rankedB; rw [decide_eq_false (by omega)]; rfl)
    go_enter Try.func44, Try.ntmps44
    go_wp2_with fail
    go_ret
    exact ⟨by rw [HZ.out]; rfl, below_refl _⟩
  · have d1 : decide (x.rank < 1) = false := by simpa using h1
    have HR := Lib.hid (show rankedB k.C x = (x.picks.isEmpty || x.picks.any (fun p => lesserB k.C p x.rank)) by unfold rankedB; rw [decide_eq_true (by omega)]; rfl)
    clear h1
    go_enter Try.func44, Try.ntmps44
    go_wp2_with fail
    clear z8 z9 d1
    go_loopw [16] (fun cnt wr => NoneTo x.picks (fun p => lesserB k.C p x.rank) w cnt wr) (fun cnt _ => x.picks.length - (intOf cnt).toNat)
    case atStart => exact ⟨0, rfl, Nat.zero_le _, rfl, below_refl _⟩
    case round =>
      obtain ⟨i, rfl, hi, hall, hb⟩ := hrel
      have HB := Lib.hid hb
      have HA := Lib.hid hall
      have H2 := Lib.hid (H.out.mono hb)
      have HN2 := Lib.hid (HN.out.mono hb)
      clear hb hall
      by_cases hlt : i < x.picks.length
      · obtain ⟨p, hp⟩ : ∃ p, x.picks[i]? = some p := ⟨_, List.getElem?_eq_getElem hlt⟩
        obtain ⟨pd, A1, c1, eA, hPk⟩ := pck_at HN2.out.pk hp
        subst eA
        have HPk := Lib.hid hPk
        have HQ := Lib.hid hp
        have b1 : (i : Int) < x.picks.length := by omega
        have z8 := Lib.hid HN2.out.c8
        have z9 := Lib.hid HN2.out.c9
        have HKK := Lib.hid (kidsIn_at HK.out hp)
        clear hPk hp
        obtain ⟨bl, hbl⟩ : ∃ bl, bl = lesserB k.C p x.rank := ⟨_, rfl⟩
        have HBL := Lib.hid hbl
        have HC := Lib.hid (show ∀ w5, Below wr.heap.size wr w5 → Calls Try.prog 59 #[.pointer (some ⟨k.p, 0, none⟩), .pointer (some (pd.add (i * 3))), .int .i64 x.rank] w5 fun e w' => e = .returned (.bool bl) ∧ Below w5.heap.size w5 w' from fun w5 hC => by
          rw [hbl]; exact lesser_any (H2.out.mono hC) F (HPk.out.mono hC) HKK.out x.rank)
        clear hbl
        go_wp2_with fail
        cases bl with
        | true =>
          refine wp_region_below (by kernel_rfl) (by kernel_rfl) ?_
          repeat (first
            | (refine qv_skip (by rfl) ?_; simp only [Act.put, List.setIfInBounds_toArray, List.set_cons_zero, List.set_cons_succ])
            | (refine qv_val' (by rfl) ?_; apply Exists.intro; refine ⟨fun w5 hC => ?_, ?_⟩; (have qqr0 := below_cell hC z8.out; have qqr1 := below_cell hC z9.out; go_simp; rfl); simp only [Act.put, List.setIfInBounds_toArray, List.set_cons_zero, List.set_cons_succ])
            | (refine qv_call' (by rfl) ?_; apply Exists.intro; apply Exists.intro; apply Exists.intro; refine ⟨fun w5 hC => ?_, fun w5 hC => ?_, ?_⟩; (go_simp; first | rfl | exact ⟨rfl, rfl⟩); (first | (go_at_call 59; exact calls_in hC (HC.out w5 hC))); simp only [Act.put, List.setIfInBounds_toArray, List.set_cons_zero, List.set_cons_succ]))
          refine qv_nil ?_
          intro w5 hC
          have HB5 := Lib.hid (below_trans HB.out hC)
          clear hC
          go_wp2_with fail
          go_ret
          exact ⟨by rw [HR.out, any_good (p := fun p => lesserB k.C p x.rank) HQ.out HBL.out.symm, Bool.or_true]; rfl, HB5.out⟩
        | false =>
          refine wp_region_below (by kernel_rfl) (by kernel_rfl) ?_
          repeat (first
            | (refine qv_skip (by rfl) ?_; simp only [Act.put, List.setIfInBounds_toArray, List.set_cons_zero, List.set_cons_succ])
            | (refine qv_val' (by rfl) ?_; apply Exists.intro; refine ⟨fun w5 hC => ?_, ?_⟩; (have qqr0 := below_cell hC z8.out; have qqr1 := below_cell hC z9.out; go_simp; rfl); simp only [Act.put, List.setIfInBounds_toArray, List.set_cons_zero, List.set_cons_succ])
            | (refine qv_call' (by rfl) ?_; apply Exists.intro; apply Exists.intro; apply Exists.intro; refine ⟨fun w5 hC => ?_, fun w5 hC => ?_, ?_⟩; (go_simp; first | rfl | exact ⟨rfl, rfl⟩); (first | (go_at_call 59; exact calls_in hC (HC.out w5 hC))); simp only [Act.put, List.setIfInBounds_toArray, List.set_cons_zero, List.set_cons_succ]))
          refine qv_nil ?_
          intro w5 hC
          have HB5 := Lib.hid (below_trans HB.out hC)
          clear hC
          go_wp2_with fail
          go_roundw
          case rel => exact ⟨i + 1, by go_num, by omega, by rw [any_take HQ.out, HA.out, ← HBL.out]; rfl, HB5.out⟩
          case measure => simp [intOf]; omega
      · have hie : i = x.picks.length := by omega
        have z9 := HN2.out.c9
        have HE := Lib.hid (show rankedB k.C x = decide (x.picks.length = 0) by
          rw [HR.out]
          have := HA.out
          rw [hie, List.take_length] at this
          rw [this, Bool.or_false]
          cases x.picks <;> simp)
        subst hie
        go_wp2_with fail
        go_ret
        exact ⟨by rw [HE.out]; exact ret_bool (by rw [Bool.eq_iff_iff]; simp), HB.out⟩
end Go.Proofs.Ytfmfoiecphhhiaa
