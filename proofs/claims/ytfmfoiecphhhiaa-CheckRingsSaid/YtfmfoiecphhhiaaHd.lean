/-
  Hd: the checker's kids: a map of keys; are all kids nodes?
-/
import Derived.Test.YtfmfoiecphhhiaaH4
import Derived.Test.YtfmfoiecphhhiaaG4
import Derived.DeepKeys5
import Derived.Maps.Own
import Derived.Maps.OwnSet
import Derived.Maps.Views
set_option linter.unusedSimpArgs false
set_option linter.unusedVariables false
namespace Go.Proofs.Ytfmfoiecphhhiaa
open Go.RowKit Go.Maps

/-- A key whose numbers are Go's. -/
def KyWf (k : Ky) : Prop := ∀ n ∈ [k.kind, k.name, k.plc.rule, k.plc.conj, k.plc.pos, k.i, k.j], -9223372036854775808 ≤ n ∧ n ≤ 9223372036854775807
def litK (k : Ky) : Lit := .string (keyBytes [.int .i64 k.kind, .int .i64 k.name, .int .i64 k.plc.rule, .int .i64 k.plc.conj, .int .i64 k.plc.pos, .int .i64 k.i, .int .i64 k.j])
theorem kyLaw : Keyed Try.prog 70 := Keyed.of_law (deep_law (m := 3) (by omega) (by kernel_rfl) (by kernel_rfl) (by kernel_rfl))
theorem kcells_key : Try.prog.cellsOf 70 = 7 := by kernel_rfl
theorem kcells_plc : Try.prog.cellsOf 34 = 3 := by kernel_rfl
theorem kcells_int : Try.prog.cellsOf 3 = 1 := by kernel_rfl
theorem key_keyType : Try.prog.keyType 70 = true := by kernel_rfl
theorem wf_i64 {n : Int} (h : -9223372036854775808 ≤ n ∧ n ≤ 9223372036854775807) : (Lit.int .i64 n).wf = true := by simp [Lit.wf, IntKind.min, IntKind.max, IntKind.bits, IntKind.signed]; omega
theorem int_lits {n : Int} (h : (Lit.int .i64 n).wf = true) (d : Nat) : Try.prog.keyLits (d + 1) 3 [.int .i64 n] = some [.int .i64 n] := by
  unfold Program.keyLits
  simp [Try.underlying3, h]
theorem plc_lits {a b c : Int} (h1 : (Lit.int .i64 a).wf = true) (h2 : (Lit.int .i64 b).wf = true) (h3 : (Lit.int .i64 c).wf = true) (d : Nat) : Try.prog.keyLits (d + 2) 34 [.int .i64 a, .int .i64 b, .int .i64 c] = some [.int .i64 a, .int .i64 b, .int .i64 c] := by
  unfold Program.keyLits
  simp only [Try.underlying34]
  simp [kcells_plc, kcells_int, int_lits, h1, h2, h3]
theorem ky_lits {k : Ky} (h : KyWf k) (d : Nat) : Try.prog.keyLits (d + 3) 70 [.int .i64 k.kind, .int .i64 k.name, .int .i64 k.plc.rule, .int .i64 k.plc.conj, .int .i64 k.plc.pos, .int .i64 k.i, .int .i64 k.j] = some [.int .i64 k.kind, .int .i64 k.name, .int .i64 k.plc.rule, .int .i64 k.plc.conj, .int .i64 k.plc.pos, .int .i64 k.i, .int .i64 k.j] := by
  have w1 := wf_i64 (h k.kind (by simp))
  have w2 := wf_i64 (h k.name (by simp))
  have w3 := wf_i64 (h k.plc.rule (by simp))
  have w4 := wf_i64 (h k.plc.conj (by simp))
  have w5 := wf_i64 (h k.plc.pos (by simp))
  have w6 := wf_i64 (h k.i (by simp))
  have w7 := wf_i64 (h k.j (by simp))
  unfold Program.keyLits
  simp only [Try.underlying70]
  simp [kcells_key, kcells_plc, kcells_int, int_lits, plc_lits, w1, w2, w3, w4, w5, w6, w7]
theorem keyOf_ky {k : Ky} (h : KyWf k) : keyOf Try.prog 70 (kyV k) = some (litK k) := by
  have h0 : decide (2 ≤ Try.prog.types.size) = true := by kernel_rfl
  have h0' := of_decide_eq_true h0
  obtain ⟨d, hd⟩ : ∃ d, Try.prog.types.size = d + 2 := ⟨Try.prog.types.size - 2, by omega⟩
  unfold keyOf kyV
  rw [Try.underlying70]
  simp only [key_keyType, Value.formed, Try.underlying70, kcells_key, Value.cells, hd]
  rw [ky_lits h d]
  rfl
theorem litK_key (k : Ky) : WideAt.IsKeyLit (litK k) := by simp [WideAt.IsKeyLit, litK]
theorem litK_inj {a b : Ky} (ha : KyWf a) (hb : KyWf b) (h : litK a = litK b) : a = b := by
  have h1 := keyOf_ky ha
  have h2 := keyOf_ky hb
  rw [← h] at h2
  have h3 := kyLaw.inj h1 h2
  obtain ⟨a1, a2, ⟨a3, a4, a5⟩, a6, a7⟩ := a
  obtain ⟨b1, b2, ⟨b3, b4, b5⟩, b6, b7⟩ := b
  unfold kyV at h3
  simp at h3
  obtain ⟨rfl, rfl, rfl, rfl, rfl, rfl, rfl⟩ := h3
  rfl
def setK (L : List Ky) : DataW Unit := setOf (.lit (.bool true)) (L.map litK)
theorem setK_snoc (L : List Ky) (e : Ky) : setK (L ++ [e]) = (setK L).put (litK e) (.lit (.bool true)) := by
  unfold setK
  rw [List.map_append, List.map_cons, List.map_nil, setOf_snoc]
theorem setK_at {L : List Ky} (hL : ∀ k ∈ L, KyWf k) {s : Ky} (hs : KyWf s) : (setK L).atKey (litK s) (.lit (.bool false)) = .lit (.bool (decide (s ∈ L))) := by
  have key : ∀ n, n ≤ L.length → (setK (L.take n)).atKey (litK s) (.lit (.bool false)) = .lit (.bool (decide (s ∈ L.take n))) := by
    intro n
    induction n with
    | zero => intro _; simp [setK, setOf, DataW.atKey]
    | succ n ih =>
      intro hk
      obtain ⟨x, hx⟩ : ∃ x, L[n]? = some x := ⟨_, List.getElem?_eq_getElem (by omega)⟩
      have hM : IsMap (setK (L.take n)) := (tidy_setOf _ _ (by intro l hl; obtain ⟨y, _, rfl⟩ := List.mem_map.1 hl; exact litK_key _)).isMap
      rw [take_snoc hx, setK_snoc]
      by_cases he : s = x
      · subst he
        rw [atKey_put_same hM (litK_key _)]
        simp
      · rw [atKey_put_other (fun e => he (litK_inj hs (hL x (List.mem_of_getElem? hx)) e)), ih (by omega)]
        simp [he]
  have := key L.length (Nat.le_refl _)
  rwa [List.take_length] at this
theorem nodK_not {ns : List Ky} {k : Nat} {s : Ky} (h : ns[k]? = some s) (hs : s ∈ ns.take k) : ¬ ns.Nodup := by
  intro hn
  have h1 : (ns.take (k + 1)).Nodup := (List.take_sublist _ _).nodup hn
  rw [List.take_add_one, h, List.nodup_append] at h1
  exact h1.2.2 s hs s (by simp) rfl
theorem nodK_more {ns : List Ky} {k : Nat} {s : Ky} (h : ns[k]? = some s) (hd : (ns.take k).Nodup) (hs : s ∉ ns.take k) : (ns.take (k + 1)).Nodup := by
  rw [List.take_add_one, h, List.nodup_append]
  refine ⟨hd, by simp, ?_⟩
  intro a ha b hb e
  simp at hb
  subst hb
  subst e
  exact hs ha
theorem ky_look {wr : World} {L : List Ky} {b n : Nat} {s : Ky} (h : wr.ownsMap Try.prog 70 (plainElem (H := Unit) Try.prog 4) b n (setK L)) (hL : ∀ k ∈ L, KyWf k) (hs : KyWf s) :
    (Instr.lookup 83 (.map (some b)) (kyV s) false).run Try.prog wr = .ok (.bool (decide (s ∈ L))) wr := by
  obtain ⟨v, ps, hrun, hv⟩ := h.lookup kyLaw Try.underlying83 (zeroBool _) (plainElem_bool Try.underlying4 false) (keyOf_ky hs)
  rw [setK_at hL hs] at hv
  rw [hrun, plainElem_bool_inv Try.underlying4 hv]
def kidOK (n : Nat) (k : Int) : Bool := decide (0 ≤ k) && decide (k < n)
def pickOK (n : Nat) (p : Pck) : Bool := p.kids.all (kidOK n)
theorem kidsIn_eq (C : Crt) (x : Nod) : kidsIn C x = x.picks.all (pickOK C.nodes.length) := rfl
def KeysRel2 (C : Crt) (w : World) (cnt : Value) (wr : World) : Prop :=
  ∃ i : Nat, cnt = .int .i64 i ∧ i ≤ C.nodes.length ∧ (C.nodes.take i).all (kidsIn C) = true ∧ ((C.nodes.map Nod.ky).take i).Nodup ∧ wr.ownsMap Try.prog 70 (plainElem (H := Unit) Try.prog 4) w.heap.size i (setK ((C.nodes.map Nod.ky).take i)) ∧ Below w.heap.size w wr
theorem ownsMap_below {P : Program} {H : Type} {K : TypeId} {R : Value → Option (DataW H × List MemPlace)} {b n : Nat} {D : DataW H} {w w' : World} (h : w.ownsMap P K R b n D) (hb : Below w.heap.size w w') : w'.ownsMap P K R b n D := by
  obtain ⟨es, clock, h1, h2⟩ := h
  exact ⟨es, clock, blk_below h1 hb, h2⟩

theorem nod_at1 {w : World} {nd : Addr} {xs : List Nod} (h : nodRd.C w (some nd) xs) {i : Nat} {x : Nod} (hx : xs[i]? = some x) : ∃ A1 c1, NodAt w (nd.add (i * 10)) x A1 c1 := by
  obtain ⟨nd', A1, c1, e, hN⟩ := nod_at h hx
  injection e with e
  subst e
  exact ⟨A1, c1, hN⟩
def NoDup (C : Crt) (i : Nat) : Prop := ((C.nodes.map Nod.ky).take i).Nodup
set_option maxRecDepth 100000 in
set_option maxHeartbeats 8000000 in
theorem kids_ok {w : World} {k : CK} (h : CkAt w k) (F : k.Fits) (hwf : ∀ x ∈ k.C.nodes, KyWf x.ky) :
    Calls Try.prog 14 #[.pointer (some ⟨k.p, 0, none⟩)] w fun e w' => e = .returned (.bool (kidsB k.C)) ∧ Below w.heap.size w w' := by
  have hN := F.N
  have hmm := @run_makeMap Try.prog
  have hb0 := below_alloc' (below_refl w) (Obj.map #[] 0)
  have H := Lib.hid h
  have HWF := Lib.hid hwf
  have HKB := Lib.hid (show kidsB k.C = (decide ((k.C.nodes.map Nod.ky).Nodup) && k.C.nodes.all (kidsIn k.C)) from rfl)
  have HWL := Lib.hid (show ∀ n, ∀ q ∈ (k.C.nodes.map Nod.ky).take n, KyWf q from fun n q hq => by
    obtain ⟨x, hx, rfl⟩ := List.mem_map.1 (List.mem_of_mem_take hq)
    exact hwf x hx)
  have p2 := below_cell hb0 h.p2
  have c1 := below_cell hb0 h.c1
  clear h hwf hb0
  go_enter Try.func14, Try.ntmps14
  go_wp2_with fail
  clear p2 c1
  go_loopw [19] (fun cnt wr => KeysRel2 k.C w cnt wr) (fun cnt _ => k.C.nodes.length - (intOf cnt).toNat)
  case atStart => exact ⟨0, rfl, Nat.zero_le _, rfl, List.nodup_nil, World.ownsMap_made _ _ _ _, below_alloc' (below_refl w) _⟩
  case round =>
    clear hmm
    obtain ⟨i, rfl, hi, hall, hnd, hown, hb⟩ := hrel
    have HO := Lib.hid hown
    have HB := Lib.hid hb
    have HA := Lib.hid hall
    have HD := Lib.hid hnd
    have H2 := Lib.hid (H.out.mono hb)
    clear hown hb hall hnd
    by_cases hlt : i < k.C.nodes.length
    · obtain ⟨x, hx⟩ : ∃ x, k.C.nodes[i]? = some x := ⟨_, List.getElem?_eq_getElem hlt⟩
      obtain ⟨nd, A1, c9, eA, hNd⟩ := nod_at H2.out.nod hx
      have hxk : (k.C.nodes.map Nod.ky)[i]? = some x.ky := by rw [List.getElem?_map, hx]; rfl
      have hwx := HWF.out x (List.mem_of_getElem? hx)
      have p2 := H2.out.p2
      have c1 := H2.out.c1
      rw [eA] at c1
      have b1 : (i : Int) < k.C.nodes.length := by omega
      have HNd := Lib.hid hNd
      have HX := Lib.hid hx
      have HXK := Lib.hid hxk
      have HWX := Lib.hid hwx
      have HEA := Lib.hid eA
      clear hx hNd hxk hwx eA
      have HK1 := Lib.hid (keyOf_any HNd.out)
      by_cases hm : x.ky ∈ (k.C.nodes.map Nod.ky).take i
      · have HZ := Lib.hid (show kidsB k.C = false by rw [HKB.out, decide_eq_false (nodK_not HXK.out hm)]; rfl)
        have HM := Lib.hid hm
        clear hm
        go_wp2_with (first | (go_at_call 24; refine HK1.out.mono ?_; rintro e w1 ⟨rfl, hb1⟩; have HL1 := ky_look (ownsMap_below HO.out hb1) (HWL.out i) HWX.out; rw [decide_eq_true HM.out] at HL1; have HB1 := Lib.hid (below_trans HB.out hb1); clear hb1) | fail)
        go_ret
        exact ⟨by rw [HZ.out]; rfl, HB1.out⟩
      · have HM := Lib.hid hm
        clear hm
        have HAC := Lib.hid (show ∀ w', CkAt w' k → nodRd.C w' (some nd) k.C.nodes from fun w' h' => by rw [← HEA.out]; exact h'.nod)
        go_wp2_with (first
          | (go_at_call 24; refine (keyOf_any (HNd.out.mono (by first | exact below_refl _ | exact HB1.out))).mono ?_; rintro e w1 ⟨rfl, hb1⟩; have HB1 := Lib.hid (show Below wr.heap.size wr w1 from by first | exact hb1 | exact below_then HB1.out hb1); have HL1 := ky_look (ownsMap_below HO.out HB1.out) (HWL.out i) HWX.out; rw [decide_eq_false HM.out] at HL1; have HO1 := Lib.hid (ownsMap_below HO.out HB1.out); clear hb1)
          | (at_mapUpdate; refine wpList_mapUpdate_own _ rfl _ _ _ 83 rfl 70 4 kyLaw Try.underlying83 _ w.heap.size i _ rfl HO1.out (by unfold maxLen; omega) _ _ _ rfl rfl (keyOf_ky HWX.out) _ [] (plainElem_bool Try.underlying4 true) ?_; intro w3 hown3 hgrow3; have HB3 := Lib.hid ((below_trans HB.out HB1.out).grown hgrow3 (below_trans HB.out HB1.out).size (fun j hj => by cases hj; exact Nat.le_refl _)); have HO3 := Lib.hid hown3; have H3 := Lib.hid (H.out.mono HB3.out); obtain ⟨A3, c3, hN3⟩ := nod_at1 (HAC.out _ H3.out) HX.out; have z9 := hN3.c9; have hl1 := hN3.l1; have hl2 := hN3.l2; have HN3 := Lib.hid hN3; clear hown3 hgrow3 hN3)
          | fail)
        clear z9 HL1 p2 c1
        obtain ⟨wo, rfl⟩ : ∃ wo : World, wo = wr := ⟨_, rfl⟩
        go_loopw [43] (fun cnt wr => AllTo x.picks (pickOK k.C.nodes.length) w3 cnt wr) (fun cnt _ => x.picks.length - (intOf cnt).toNat)
        case atStart => exact ⟨0, rfl, Nat.zero_le _, rfl, below_refl _⟩
        case round =>
          obtain ⟨q, rfl, hq, hallq, hbq⟩ := hrel
          have HBQ := Lib.hid hbq
          have HAQ := Lib.hid hallq
          have H4 := Lib.hid (H3.out.mono hbq)
          have HN4 := Lib.hid (HN3.out.mono hbq)
          clear hbq hallq
          by_cases hltq : q < x.picks.length
          · obtain ⟨p, hp⟩ : ∃ p, x.picks[q]? = some p := ⟨_, List.getElem?_eq_getElem hltq⟩
            obtain ⟨pd, Ak, ck, eP, hPk⟩ := pck_at HN4.out.pk hp
            subst eP
            have y0 := hPk.c0
            have y1 := hPk.c1
            have y2 := hPk.c2
            have hk1 := hPk.l1
            have hk2 := hPk.l2
            have b2 : (q : Int) < x.picks.length := by omega
            have HP := Lib.hid hp
            have HKD := Lib.hid hPk.kd
            clear hp hPk
            go_wp2_with fail
            have hb4 := below_alloc' (below_refl wr) (Obj.cells #[.int .i64 p.sp, .int .i64 p.cj, .slice Ak p.kids.length ck] 51)
            generalize wr.alloc (Obj.cells #[.int .i64 p.sp, .int .i64 p.cj, .slice Ak p.kids.length ck] 51) = w4 at hb4 ⊢
            have HB4 := Lib.hid hb4
            have HKE := Lib.hid (HKD.out.mono hb4)
            have H5 := Lib.hid (H4.out.mono hb4)
            clear hb4 y0 y1 y2
            obtain ⟨wi, rfl⟩ : ∃ wi : World, wi = wr := ⟨_, rfl⟩
            go_loopw [50] (fun cnt wr => AllTo p.kids (kidOK k.C.nodes.length) w4 cnt wr) (fun cnt _ => p.kids.length - (intOf cnt).toNat)
            case atStart => exact ⟨0, rfl, Nat.zero_le _, rfl, below_refl _⟩
            case round =>
              obtain ⟨m, rfl, hm, hallm, hbm⟩ := hrel
              have HBM := Lib.hid hbm
              have HAM := Lib.hid hallm
              have H6 := Lib.hid (H5.out.mono hbm)
              have HKM := Lib.hid (HKE.out.mono hbm)
              clear hbm hallm
              by_cases hltm : m < p.kids.length
              · obtain ⟨kd, hkd⟩ : ∃ kd, p.kids[m]? = some kd := ⟨_, List.getElem?_eq_getElem hltm⟩
                obtain ⟨ad, eK, v0⟩ := Rd.C.one HKM.out hkd
                subst eK
                have p2 := H6.out.p2
                have c1 := H6.out.c1
                have b3 : (m : Int) < p.kids.length := by omega
                have HKK := Lib.hid hkd
                clear hkd
                by_cases h1 : kd < 0
                · have d1 : decide (kd < 0) = true := by simpa using h1
                  have HV := Lib.hid (show kidOK k.C.nodes.length kd = false by unfold kidOK; rw [decide_eq_false (by omega)]; rfl)
                  have HZ := Lib.hid (show kidsB k.C = false by
                    have e1 : pickOK k.C.nodes.length p = false := all_bad HKK.out HV.out
                    have e2 : kidsIn k.C x = false := all_bad HP.out e1
                    rw [HKB.out, all_bad HX.out e2, Bool.and_false])
                  clear h1
                  go_wp2_with fail
                  go_ret
                  exact ⟨by rw [HZ.out]; rfl, below_trans HB3.out (below_trans HBQ.out (below_trans HB4.out HBM.out))⟩
                · have d1 : decide (kd < 0) = false := by simpa using h1
                  by_cases h2 : (k.C.nodes.length : Int) ≤ kd
                  · have d2 : decide ((k.C.nodes.length : Int) ≤ kd) = true := by simpa using h2
                    have HV := Lib.hid (show kidOK k.C.nodes.length kd = false by unfold kidOK; rw [decide_eq_false (p := kd < _) (by omega)]; simp)
                    have HZ := Lib.hid (show kidsB k.C = false by
                      have e1 : pickOK k.C.nodes.length p = false := all_bad HKK.out HV.out
                      have e2 : kidsIn k.C x = false := all_bad HP.out e1
                      rw [HKB.out, all_bad HX.out e2, Bool.and_false])
                    clear h1 h2
                    go_wp2_with fail
                    go_ret
                    exact ⟨by rw [HZ.out]; rfl, below_trans HB3.out (below_trans HBQ.out (below_trans HB4.out HBM.out))⟩
                  · have d2 : decide ((k.C.nodes.length : Int) ≤ kd) = false := by simpa using h2
                    have HV := Lib.hid (show kidOK k.C.nodes.length kd = true by unfold kidOK; rw [decide_eq_true (p := kd < _) (by omega), decide_eq_true (by omega)]; rfl)
                    clear h1 h2
                    go_wp2_with fail
                    go_roundw
                    case rel => exact ⟨m + 1, by go_num, by omega, by rw [all_take HKK.out, HAM.out, HV.out]; rfl, HBM.out⟩
                    case measure => simp [intOf]; omega
              · have hme : m = p.kids.length := by omega
                have HV := Lib.hid (show pickOK k.C.nodes.length p = true by have := HAM.out; rw [hme, List.take_length] at this; exact this)
                subst hme
                go_wp2_with fail
                go_roundw
                case rel => exact ⟨q + 1, by go_num, by omega, by rw [all_take HP.out, HAQ.out, HV.out]; rfl, below_trans HBQ.out (below_trans HB4.out HBM.out)⟩
                case measure => simp [intOf]; omega
          · have hqe : q = x.picks.length := by omega
            have HV := Lib.hid (show kidsIn k.C x = true by have := HAQ.out; rw [hqe, List.take_length] at this; exact this)
            subst hqe
            go_wp2_with fail
            go_roundw
            case rel => exact ⟨i + 1, by go_num, by omega, by rw [all_take HX.out, HA.out, HV.out]; rfl, nodK_more HXK.out HD.out HM.out, by rw [take_snoc HXK.out, setK_snoc]; exact ownsMap_below HO3.out HBQ.out, below_trans HB3.out HBQ.out⟩
            case measure => simp [intOf]; omega
    · have hie : i = k.C.nodes.length := by omega
      have HE := Lib.hid (show kidsB k.C = true by
        rw [HKB.out]
        have h3 := HA.out
        have h4 := HD.out
        rw [hie, List.take_length] at h3
        rw [hie, List.take_of_length_le (by simp)] at h4
        rw [h3, decide_eq_true h4]; rfl)
      subst hie
      go_wp2_with fail
      go_ret
      exact ⟨by rw [HE.out]; rfl, HB.out⟩
end Go.Proofs.Ytfmfoiecphhhiaa
