/-
  I9: (*ways.Maker).rules, of what is so.
-/
import Derived.Test.YtbidpeggdhkahaaI8
set_option linter.unusedSimpArgs false
set_option linter.unusedVariables false
namespace Go.Proofs.Ytbidpeggdhkahaa
open Go.RowKit

/-- A step whose kids are a slice of the call's own, apart. -/
theorem stp_hy2 {S : Nat → Prop} {W : World} {sp cj : Int} {ks : List Ky} {base n : Nat} {A : Option Addr} {c : Nat} (hn : ks.length = n) (ho : Own kyRd 59 base W (.slice A n c) ks) (hS : ∀ b, (Value.slice A n c).ownBlock = some b → ¬ S b) :
    ∀ w', Upd S W w' → stpRd.K w' ⟨sp, cj, ks⟩ [.int .i64 sp, .int .i64 cj, .slice A n c] := fun w' hu => by
  subst hn
  obtain ⟨A', c', e, h1, h2, hC⟩ := (ho.flat_upd flat_ky hu hS).shape
  injection e with e1 _ e3
  subst e1
  subst e3
  exact stpRd_mk (x := ⟨sp, cj, ks⟩) h1 h2 hC
theorem ruleStep_len {R : Ky → Int} (k : Ky) (sign : Bool) (r : Nat) (x : Rul) : (ruleStep R k sign r x).length ≤ 1 := by
  unfold ruleStep
  split <;> simp
theorem rulesTo_len {R : Ky → Int} {G : Gram} (k : Ky) (sign : Bool) : ∀ n, (rulesTo R G k sign n).length ≤ n := by
  intro n
  induction n with
  | zero => simp [rulesTo]
  | succ n ih =>
    unfold rulesTo
    rw [List.length_append]
    cases G.rules[n]? with
    | none => simp; omega
    | some x => have := ruleStep_len (R := R) k sign n x; simp only; omega
/-- The loop over the rules. -/
def RuR (wL : World) (R : Ky → Int) (G : Gram) (k : Ky) (sign : Bool) (out cnt : Value) (wr : World) : Prop :=
  ∃ r : Nat, cnt = .int .i64 r ∧ r ≤ G.rules.length ∧ Own stpRd 77 wL.heap.size wr out (rulesTo R G k sign r) ∧ Below wL.heap.size wL wr
/-- The loop over a rule's conjuncts: the step lies in block bs. -/
def RuI (w1 : World) (bs r : Nat) (k : Ky) (x : Rul) (cnt : Value) (wr : World) : Prop :=
  ∃ (c : Nat) (vk : Value), cnt = .int .i64 c ∧ c ≤ x.conj.length ∧ wr.heap[bs]? = some (.cells #[.int .i64 r, .int .i64 0, vk] 77 (0, 0)) ∧ Own kyRd 59 (bs + 1) wr vk ((conjKeys k r x).take c) ∧ Below w1.heap.size w1 wr
theorem ruR_keep {wL wr w8 : World} {R : Ky → Int} {G : Gram} {k : Ky} {sign : Bool} {r : Nat} {x : Rul} {v : Value} (hx : G.rules[r]? = some x) (hb : Below wL.heap.size wL wr) (hb8 : Below wr.heap.size wr w8) (ho : Own stpRd 77 wL.heap.size wr v (rulesTo R G k sign r))
    (hy : ruleStep R k sign r x = []) : RuR wL R G k sign v (.int .i64 ((r : Int) + 1)) w8 := by
  have hr := (List.getElem?_eq_some_iff.1 hx).1
  refine ⟨r + 1, by push_cast; rfl, hr, ?_, below_then hb hb8⟩
  unfold rulesTo
  rw [hx]
  simp only [hy, List.append_nil]
  exact ho.below hb8
theorem ruR_end {wL wr w8 w9 : World} {R : Ky → Int} {G : Gram} {k : Ky} {sign : Bool} {r : Nat} {x : Rul} {v v1 : Value} {ys : List Stp} (hx : G.rules[r]? = some x) (hb : Below wL.heap.size wL wr) (hb8 : Below wr.heap.size wr w8) (ho : Own stpRd 77 wL.heap.size wr v (rulesTo R G k sign r))
    (hy : ruleStep R k sign r x = ys) (o9 : Own stpRd 77 wL.heap.size w9 v1 (rulesTo R G k sign r ++ ys)) (g9 : w8.grownBy w9 v.ownBlock) : RuR wL R G k sign v1 (.int .i64 ((r : Int) + 1)) w9 := by
  have hr := (List.getElem?_eq_some_iff.1 hx).1
  refine ⟨r + 1, by push_cast; rfl, hr, ?_, ?_⟩
  · unfold rulesTo
    rw [hx]
    simp only [hy]
    exact o9
  · exact (below_then hb hb8).grown g9 (below_then hb hb8).size (fun b hb => (ho.base hb).1)

theorem ruI_end {w1 wr W w7 : World} {bs r c : Nat} {k : Ky} {x : Rul} {v v7 : Value} (hbs : bs = w1.heap.size) (hc : c < x.conj.length) (hbi : Below w1.heap.size w1 wr) (hW : Below wr.heap.size wr W) (hs : wr.heap[bs]? = some (.cells #[.int .i64 r, .int .i64 0, v] 77 (0, 0)))
    (ho : Own kyRd 59 (bs + 1) wr v ((conjKeys k r x).take c)) (o7 : Own kyRd 59 (bs + 1) w7 v7 ((conjKeys k r x).take c ++ [ckey r c k])) (g7 : W.grownBy w7 v.ownBlock) : RuI w1 bs r k x (.int .i64 ((c : Int) + 1)) (w7.setCell ⟨bs, 2, none⟩ v7) := by
  have q := blk_grown (blk_below hs hW) g7 (fun e => by have := (ho.base e.symm).1; omega)
  have hz : Upd (fun b => b = bs) w7 (w7.setCell ⟨bs, 2, none⟩ v7) := (Upd.refl (fun b => b = bs) w7).setCell (p := ⟨bs, 2, none⟩) rfl _
  refine ⟨c + 1, v7, by push_cast; rfl, hc, blk_set q 2 v7, ?_, ?_⟩
  · rw [take_snoc (conjKeys_at hc)]
    exact o7.upd hz (fun b (e : b = bs) => by omega)
  · exact ((below_then hbi hW).grown g7 (below_then hbi hW).size (fun b hb => by have := (ho.base hb).1; omega)).setCell (by simp only; omega) _

set_option maxRecDepth 100000 in
set_option maxHeartbeats 4000000 in
/-- (*ways.Maker).rules, where the name is so. -/
theorem mRulesT {w : World} {m : MK} (h : MKAt w m) (F : m.Fits) (k : Ky) (i0 : 0 ≤ k.i) (ij : k.i ≤ k.j) (j1 : k.j ≤ m.t.W.size) :
    Calls Try.prog 29 #[.pointer (some ⟨m.p, 0, none⟩), kyV k, .bool true] w (PicksPost w (rulesTo m.R m.t.G k true m.t.G.rules.length)) := by
  have hR := F.may.rules
  have hCJ := F.may.conj
  have hcap := F.cap
  have hcap' := F.cap'
  have hb0 : Below w.heap.size w (w.alloc (kyO k)) := below_alloc' (below_refl w) _
  have H0 := Lib.hid (h.mono hb0)
  have x4 := heap_alloc_new w (kyO k)
  obtain ⟨b0, hb⟩ : ∃ b0, b0 = w.heap.size := ⟨_, rfl⟩
  clear h
  unfold kyV
  go_enter Try.func29, Try.ntmps29
  go_upto_region 1 with fail
  change Code.wp _ _ _ _ (w.alloc (kyO k))
  rw [← hb] at x4 ⊢
  generalize w.alloc (kyO k) = wL at hb0 H0 x4 ⊢
  have HX4 := Lib.hid x4
  have HB0 := Lib.hid hb0
  have m0 := H0.out.m0
  have g2 := H0.out.g2
  clear hb hb0 x4
  go_upto_region 3 with fail
  clear m0 g2
  go_loopw [7, 21] (fun s7 s21 wr => RuR wL m.R m.t.G k true s7 s21 wr) (fun _ s21 _ => m.t.G.rules.length - (intOf s21).toNat)
  case atStart => exact ⟨0, rfl, Nat.zero_le _, Own.nil _ _ _ _, below_refl _⟩
  case round =>
    obtain ⟨r, rfl, hr, ho, hb⟩ := hrel
    obtain ⟨A9, c9, rfl, l9, l9', -⟩ := id ho.shape
    have HO := Lib.hid ho
    have HB := Lib.hid hb
    have hlen := rulesTo_len (R := m.R) (G := m.t.G) k true r
    by_cases hlt : r < m.t.G.rules.length
    · have hltz : (r : Int) < (m.t.G.rules.length : Int) := by omega
      obtain ⟨x, hx⟩ : ∃ x, m.t.G.rules[r]? = some x := ⟨_, List.getElem?_eq_getElem hlt⟩
      obtain ⟨ad, A1, c1, eA, -, r0, r1, q1, q2, hC1⟩ := rul_at (H0.out.mono hb).gR hx
      have HX := Lib.hid hx
      have HC1 := Lib.hid hC1
      have hcj := (hCJ r x hx).2
      rw [eA]
      have kk := kyAt_blk (blk_below HX4.out hb)
      have m2 := (H0.out.mono hb).m2
      have K1 := Lib.hid (show wr.cell? ⟨b0, 1, none⟩ = some (.int .i64 k.name) by simpa using kk.c1)
      have K5 := Lib.hid (show wr.cell? ⟨b0, 5, none⟩ = some (.int .i64 k.i) by simpa using kk.c5)
      have K6 := Lib.hid (show wr.cell? ⟨b0, 6, none⟩ = some (.int .i64 k.j) by simpa using kk.c6)
      have M2 := Lib.hid m2
      clear ho hb hx hC1 kk m2
      go_upto_region 5 with fail
      obtain ⟨b9, hb9⟩ : ∃ b, b = wr.heap.size := ⟨_, rfl⟩
      have x9 := heap_alloc_new wr (.cells #[.int .i64 x.head, .slice A1 x.conj.length c1] 29)
      have h9 : Below wr.heap.size wr (wr.alloc (.cells #[.int .i64 x.head, .slice A1 x.conj.length c1] 29)) := below_alloc' (below_refl _) _
      rw [← hb9] at x9 ⊢
      generalize wr.alloc (.cells #[.int .i64 x.head, .slice A1 x.conj.length c1] 29) = wo at x9 h9 ⊢
      have X9 := Lib.hid x9
      have HW := Lib.hid h9
      have Q0 := Lib.hid (show wo.cell? ⟨b9, 0, none⟩ = some (.int .i64 x.head) from blk_cell x9 0)
      have K1 := Lib.hid (below_cell h9 K1.out)
      have K5 := Lib.hid (below_cell h9 K5.out)
      have K6 := Lib.hid (below_cell h9 K6.out)
      have M2 := Lib.hid (below_cell h9 M2.out)
      clear hb9 x9 h9 r0 r1
      have erw : IntKind.i64.wrap ((r : Int) + 1) = (r : Int) + 1 := IntWalk.i64_in _ (by omega)
      by_cases h1 : x.head = k.name
      · have d1 : (x.head != k.name) = false := by simp [h1]
        have CH := Lib.hid (fun (W : World) (hW : Below wo.heap.size wo W) => mHolds (H0.out.mono (below_then HB.out (below_then HW.out hW))) F (k := k) HX.out i0 ij j1)
        cases hh : holdsK m.R k r x with
        | false =>
          have HV := Lib.hid (show ruleStep m.R k true r x = [] by unfold ruleStep; rw [if_neg (by rw [hh]; rintro ⟨-, h⟩; cases h)])
          rw [hh] at CH
          clear h1 hh
          refine wp_region_below (by kernel_rfl) (by kernel_rfl) ?_
          repeat (first
            | (refine qv_skip (by rfl) ?_; simp only [Act.put, List.setIfInBounds_toArray, List.set_cons_zero, List.set_cons_succ])
            | (refine qv_val' (by rfl) ?_; apply Exists.intro; refine ⟨fun w5 hC => ?_, ?_⟩; (have qqr0 := below_cell hC Q0.out; have qqr1 := below_cell hC K1.out; have qqr2 := below_cell hC K5.out; have qqr3 := below_cell hC K6.out; have qqr4 := below_cell hC M2.out; go_simp; rfl); simp only [Act.put, List.setIfInBounds_toArray, List.set_cons_zero, List.set_cons_succ])
            | (refine qv_call' (by rfl) ?_; apply Exists.intro; apply Exists.intro; apply Exists.intro; refine ⟨fun w5 hC => ?_, fun w5 hC => ?_, ?_⟩; (go_simp; first | rfl | exact ⟨rfl, rfl⟩); (first | (go_at_call 37; exact calls_in hC (CH.out w5 hC))); simp only [Act.put, List.setIfInBounds_toArray, List.set_cons_zero, List.set_cons_succ]))
          refine qv_nil ?_
          intro w5 hC
          have HX5 := Lib.hid (below_then HW.out hC)
          clear hC
          go_wp2_with fail
          go_roundw
          case rel => exact ruR_keep HX.out HB.out HX5.out HO.out HV.out
          case measure => simp [intOf]; omega
        | true =>
          have HV := Lib.hid (show ruleStep m.R k true r x = [⟨r, 0, conjKeys k r x⟩] by unfold ruleStep; rw [if_pos ⟨h1, hh⟩]; rfl)
          rw [hh] at CH
          clear h1 hh
          refine wp_region_below (by kernel_rfl) (by kernel_rfl) ?_
          repeat (first
            | (refine qv_skip (by rfl) ?_; simp only [Act.put, List.setIfInBounds_toArray, List.set_cons_zero, List.set_cons_succ])
            | (refine qv_val' (by rfl) ?_; apply Exists.intro; refine ⟨fun w5 hC => ?_, ?_⟩; (have qqr0 := below_cell hC Q0.out; have qqr1 := below_cell hC K1.out; have qqr2 := below_cell hC K5.out; have qqr3 := below_cell hC K6.out; have qqr4 := below_cell hC M2.out; go_simp; rfl); simp only [Act.put, List.setIfInBounds_toArray, List.set_cons_zero, List.set_cons_succ])
            | (refine qv_call' (by rfl) ?_; apply Exists.intro; apply Exists.intro; apply Exists.intro; refine ⟨fun w5 hC => ?_, fun w5 hC => ?_, ?_⟩; (go_simp; first | rfl | exact ⟨rfl, rfl⟩); (first | (go_at_call 37; exact calls_in hC (CH.out w5 hC))); simp only [Act.put, List.setIfInBounds_toArray, List.set_cons_zero, List.set_cons_succ]))
          refine qv_nil ?_
          intro w5 hC
          have HX5 := Lib.hid (below_then HW.out hC)
          have z1 : w5.cell? ⟨b9, 1, none⟩ = some (.slice A1 x.conj.length c1) := blk_cell (blk_below X9.out hC) 1
          have z1a : ∀ o, (w5.alloc o).cell? ⟨b9, 1, none⟩ = some (.slice A1 x.conj.length c1) := fun o => below_cell (below_alloc' (below_refl _) o) z1
          have X9 := Lib.hid (blk_below X9.out hC)
          have K5 := Lib.hid (below_cell hC K5.out)
          have K6 := Lib.hid (below_cell hC K6.out)
          clear hC z1
          go_upto_region 8 with fail
          clear z1a
          obtain ⟨bs, hbs⟩ : ∃ b, b = w5.heap.size := ⟨_, rfl⟩
          have x9 := heap_alloc_new w5 (.cells #[.int .i64 r, .int .i64 0, .slice none 0 0] 77)
          have h9 : Below w5.heap.size w5 (w5.alloc (.cells #[.int .i64 r, .int .i64 0, .slice none 0 0] 77)) := below_alloc' (below_refl _) _
          rw [← hbs] at x9 ⊢
          generalize w5.alloc (.cells #[.int .i64 r, .int .i64 0, .slice none 0 0] 77) = ws at x9 h9 ⊢
          have XS := Lib.hid x9
          have HS := Lib.hid h9
          have HBS := Lib.hid hbs
          clear hbs x9 h9
          go_loopw [50] (fun s50 wr => RuI w5 bs r k x s50 wr) (fun s50 _ => x.conj.length - (intOf s50).toNat)
          case atStart => exact ⟨0, _, rfl, Nat.zero_le _, XS.out, Own.nil _ _ _ _, HS.out⟩
          case round =>
            obtain ⟨c, vk, rfl, hc, hs, hk, hbi⟩ := hrel
            have hkl : ((conjKeys k r x).take c).length = c := by simp [conjKeys]; omega
            obtain ⟨Ak, ck, rfl, lk, lk', -⟩ := id hk.shape
            rw [hkl] at hs hk lk
            by_cases hlc : c < x.conj.length
            · have hlcz : (c : Int) < (x.conj.length : Int) := by omega
              have XSi := Lib.hid hs
              have HK := Lib.hid hk
              have HBI := Lib.hid hbi
              have HKL := Lib.hid hkl
              have z5 : wr.cell? ⟨b0, 5, none⟩ = some (.int .i64 k.i) := below_cell hbi K5.out
              have z6 : wr.cell? ⟨b0, 6, none⟩ = some (.int .i64 k.j) := below_cell hbi K6.out
              have HKS := Lib.hid (show ∀ p, wr.heap.size ≤ p → bs + 1 ≤ p from fun p hp => by have := blk_lt XSi.out; omega)
              have ecw : IntKind.i64.wrap ((c : Int) + 1) = (c : Int) + 1 := IntWalk.i64_in _ (by omega)
              clear hs hk hbi hkl
              go_wp2_with (first
                | (go_at_call 38; refine (wRest ⟨(r : Int), (c : Int), 0⟩ k.i k.j _).mono ?_; rintro e w6 ⟨he, hb6⟩; change e = .returned (.agg #[.int .i64 1, .int .i64 0, .int .i64 r, .int .i64 c, .int .i64 0, .int .i64 k.i, .int .i64 k.j]) at he; subst he; have HB6 := Lib.hid hb6; have s2a : ∀ o, (w6.alloc o).cell? ⟨bs, 2, none⟩ = some (.slice Ak c ck) := fun o => below_cell (below_then hb6 (below_alloc' (below_refl _) o)) (blk_cell XSi.out 2); clear hb6 z5 z6)
                | (at_builtin; refine wpList_append_one (d := kyRd) rfl (base := bs + 1) _ _ 64 59 _ 56 (by rfl) Try.underlying64 infoKy (by rfl) (by show 0 < 7; decide) (v := .slice Ak c ck) (xs := (conjKeys k r x).take c) (by rfl) ((HK.out.below HB6.out).below (below_alloc' (below_alloc' (below_refl _) _) _)) (ckey r c k) #[.int .i64 1, .int .i64 0, .int .i64 r, .int .i64 c, .int .i64 0, .int .i64 k.i, .int .i64 k.j] (fun _ _ => rfl) (b := w6.heap.size + 1) (c := 1) (by rfl) (by exact heap_alloc2_new w6 (.cells #[.int .i64 1, .int .i64 0, .int .i64 r, .int .i64 c, .int .i64 0, .int .i64 k.i, .int .i64 k.j] 59) (.cells #[.int .i64 1, .int .i64 0, .int .i64 r, .int .i64 c, .int .i64 0, .int .i64 k.i, .int .i64 k.j] 59)) (by rw [HKL.out]; omega) (by decide) (by have := HKS.out _ HB6.out.size; simp; omega) ?_; intro v7 w7 o7 g7 t7; have q7 := blk_grown (blk_below XSi.out (below_then HB6.out (below_alloc' (below_alloc' (below_refl _) _) _))) g7 (fun e => by have := (HK.out.base e.symm).1; omega); have s2 : w7.cell? ⟨bs, 2, none⟩ = some (.slice Ak c ck) := blk_cell q7 2; have f2 : w7.frozen? ⟨bs, 2, none⟩ = false := blk_frozen q7 2; have HZ := Lib.hid (ruI_end HBS.out hlc HBI.out (below_then HB6.out (below_alloc' (below_alloc' (below_refl _) _) _)) XSi.out HK.out o7 g7); obtain ⟨A7, c7, ev, -, -, -⟩ := id o7.shape; rw [show ((conjKeys k r x).take c ++ [ckey r c k]).length = c + 1 by rw [List.length_append, HKL.out]; rfl] at ev; subst ev; clear o7 g7 t7 q7 s2a)
                | fail)
              go_roundw
              case rel => exact HZ.out
              case measure => simp [intOf]; omega
            · have hlcz : ¬ (c : Int) < (x.conj.length : Int) := by omega
              have e : c = x.conj.length := by omega
              subst e
              have hta : (conjKeys k r x).take x.conj.length = conjKeys k r x := List.take_of_length_le (by simp [conjKeys])
              rw [hta] at hk
              have HK := Lib.hid hk
              have XSi := Lib.hid hs
              have HX8 := Lib.hid (below_then HX5.out hbi)
              have hcl : (conjKeys k r x).length = x.conj.length := by simp [conjKeys]
              have HCL := Lib.hid hcl
              have s0 : wr.cell? ⟨bs, 0, none⟩ = some (.int .i64 r) := blk_cell hs 0
              have s1 : wr.cell? ⟨bs, 1, none⟩ = some (.int .i64 0) := blk_cell hs 1
              have s2 : wr.cell? ⟨bs, 2, none⟩ = some (.slice Ak x.conj.length ck) := blk_cell hs 2
              have HKB := Lib.hid (show ∀ b, (Value.slice Ak x.conj.length ck).ownBlock = some b → bs + 1 ≤ b from fun b hb => (hk.base hb).1)
              clear hs hk hbi hta hkl hcl
              go_wp2_with (first
                | (at_builtin; refine wpList_append_one (d := stpRd) rfl (base := wL.heap.size) _ _ 78 77 _ 40 (by rfl) Try.underlying78 infoStp (by rfl) (by show 0 < 3; decide) (v := .slice A9 (rulesTo m.R m.t.G k true r).length c9) (xs := rulesTo m.R m.t.G k true r) (by rfl) ((HO.out.below HX8.out).below (below_alloc' (below_refl _) _)) ⟨(r : Int), 0, conjKeys k r x⟩ #[.int .i64 r, .int .i64 0, .slice Ak x.conj.length ck] (stp_hy2 HCL.out (HK.out.below (below_alloc' (below_refl _) _)) (fun b hb h => h.elim (fun h => by have := HKB.out b hb; have := HBS.out; have := HX5.out.size; have := HB.out.size; omega) (fun h => by have := HKB.out b hb; have := HBS.out; have := HX5.out.size; have := (HO.out.base h).2; omega))) (b := wr.heap.size) (c := 1) (by rfl) (by exact heap_alloc_new wr _) (by have := hlen; omega) (by decide) (by have := HX8.out.size; have := HB.out.size; simp; omega) ?_; intro v9 w9 o9 g9 t9; have HZ := Lib.hid (ruR_end HX.out HB.out (w8 := wr.alloc (.cells #[.int .i64 r, .int .i64 0, .slice Ak x.conj.length ck] 77)) (below_then HX8.out (below_alloc' (below_refl _) _)) HO.out HV.out o9 g9); clear o9 g9 t9)
                | fail)
              go_roundw
              case rel => exact HZ.out
              case measure => simp [intOf]; omega
      · have d1 : (x.head != k.name) = true := by simp [h1]
        have HV := Lib.hid (show ruleStep m.R k true r x = [] by unfold ruleStep; rw [if_neg (fun h => h1 h.1)])
        clear h1
        refine wp_region_below (by kernel_rfl) (by kernel_rfl) ?_
        repeat (first
          | (refine qv_skip (by rfl) ?_; simp only [Act.put, List.setIfInBounds_toArray, List.set_cons_zero, List.set_cons_succ])
          | (refine qv_val' (by rfl) ?_; apply Exists.intro; refine ⟨fun w5 hC => ?_, ?_⟩; (have qqr0 := below_cell hC Q0.out; have qqr1 := below_cell hC K1.out; have qqr2 := below_cell hC K5.out; have qqr3 := below_cell hC K6.out; have qqr4 := below_cell hC M2.out; go_simp; rfl); simp only [Act.put, List.setIfInBounds_toArray, List.set_cons_zero, List.set_cons_succ]))
        refine qv_nil ?_
        intro w5 hC
        have HX5 := Lib.hid (below_then HW.out hC)
        clear hC
        go_wp2_with fail
        go_roundw
        case rel => exact ruR_keep HX.out HB.out HX5.out HO.out HV.out
        case measure => simp [intOf]; omega
    · have e : r = m.t.G.rules.length := by omega
      have hltz : ¬ (r : Int) < (m.t.G.rules.length : Int) := by omega
      subst e
      clear ho hb
      go_wp2_with fail
      go_ret
      exact ⟨A9, c9, rfl, l9, l9', own_far HO.out HB0.out.size, below_then HB0.out HB.out⟩
end Go.Proofs.Ytbidpeggdhkahaa
