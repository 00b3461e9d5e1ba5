/-
  N16: the document's own table: a round of ranks, walked.
  N17: the document's own table: rank.
-/
import Derived.Test.YtbidpeggdhkahaaGreatN15
import Derived.Deep.RegionLaw
import Derived.Laws.MakeOwn
set_option linter.unusedSimpArgs false
set_option linter.unusedVariables false
namespace Go.Proofs.YtbidpeggdhkahaaGreat
open Go.RowKit

/-- Two rows of numbers that this call makes. -/
structure RSt (w : World) (va vb : Value) (xs ys : List Int) (wr : World) : Prop where
  A : Own Rd.int 3 w.heap.size wr va xs
  B : Own Rd.int 3 w.heap.size wr vb ys
  sep : ∀ b, va.ownBlock = some b → vb.ownBlock ≠ some b
  U : Below w.heap.size w wr
theorem RSt.below {w wr w2 : World} {va vb : Value} {xs ys : List Int} (h : RSt w va vb xs ys wr) (hb : Below wr.heap.size wr w2) : RSt w va vb xs ys w2 := ⟨h.A.below hb, h.B.below hb, h.sep, below_trans h.U hb⟩
theorem RSt.moreA {w wr w1 : World} {va vb v1 : Value} {xs ys : List Int} {z : Int} (h : RSt w va vb xs ys wr) (ho : Own Rd.int 3 w.heap.size w1 v1 (xs ++ [z])) (hg : wr.grownBy w1 va.ownBlock) (hat : v1.ownBlock = va.ownBlock ∨ v1.ownBlock = some wr.heap.size) : RSt w v1 vb (xs ++ [z]) ys w1 := by
  refine ⟨ho, h.B.flat_upd flat_int (Upd.of_grown hg) (fun b hb e => h.sep b e hb), fun b hb e => ?_, below_grown h.U hg (fun b hb => (h.A.base hb).1)⟩
  rcases hat with h1 | h1
  · rw [h1] at hb; exact h.sep b hb e
  · rw [h1] at hb; have := (h.B.base e).2; injection hb with hb; omega
theorem RSt.moreB {w wr w1 : World} {va vb v1 : Value} {xs ys : List Int} {z : Int} (h : RSt w va vb xs ys wr) (ho : Own Rd.int 3 w.heap.size w1 v1 (ys ++ [z])) (hg : wr.grownBy w1 vb.ownBlock) (hat : v1.ownBlock = vb.ownBlock ∨ v1.ownBlock = some wr.heap.size) : RSt w va v1 xs (ys ++ [z]) w1 := by
  refine ⟨h.A.flat_upd flat_int (Upd.of_grown hg) (fun b hb e => h.sep b hb e), ho, fun b hb e => ?_, below_grown h.U hg (fun b hb => (h.B.base hb).1)⟩
  rcases hat with h1 | h1
  · rw [h1] at e; exact h.sep b hb e
  · rw [h1] at e; have := (h.A.base hb).2; injection e with e; omega
section
variable (w : World) (bx : Nat) (ox : Obj) (bp : Nat) (op : Obj) (t : RT) (T M st : Rk × Rk) (R : Int)
def RR1 (cnt sa sb : Value) (wr : World) : Prop := ∃ (r : Nat) (va vb : Value) (xs ys : List Int), cnt = .int .i64 r ∧ sa = va ∧ sb = vb ∧ r ≤ t.G.rules.length ∧ RSt w va vb xs ys wr ∧ NFd t T M st R r 0 0 xs ∧ PFd t T M st R r 0 0 0 0 ys
def RR2 (r : Nat) (vb : Value) (ys : List Int) (cnt sa : Value) (wr : World) : Prop := ∃ (a : Int) (va : Value) (xs : List Int), cnt = .int .i64 a ∧ sa = va ∧ 0 ≤ a ∧ a ≤ t.W.size + 1 ∧ RSt w va vb xs ys wr ∧ wr.heap[bx]? = some ox ∧ NFd t T M st R r a a xs
def RR3 (r : Nat) (a : Int) (vb : Value) (ys : List Int) (cnt sa : Value) (wr : World) : Prop := ∃ (b : Int) (va : Value) (xs : List Int), cnt = .int .i64 b ∧ sa = va ∧ a ≤ b ∧ b ≤ t.W.size + 1 ∧ RSt w va vb xs ys wr ∧ wr.heap[bx]? = some ox ∧ NFd t T M st R r a b xs
def RR4 (r : Nat) (x : Rul) (va : Value) (xs : List Int) (cnt sb : Value) (wr : World) : Prop := ∃ (c : Nat) (vb : Value) (ys : List Int), cnt = .int .i64 c ∧ sb = vb ∧ c ≤ x.conj.length ∧ RSt w va vb xs ys wr ∧ wr.heap[bx]? = some ox ∧ PFd t T M st R r c 0 0 0 ys
def RR5 (r c : Nat) (y : Conj) (va : Value) (xs : List Int) (cnt sb : Value) (wr : World) : Prop := ∃ (k : Nat) (vb : Value) (ys : List Int), cnt = .int .i64 k ∧ sb = vb ∧ k ≤ y.seq.length + 1 ∧ RSt w va vb xs ys wr ∧ wr.heap[bx]? = some ox ∧ PFd t T M st R r c k 0 0 ys
def RR6 (r c k : Nat) (va : Value) (xs : List Int) (cnt sb : Value) (wr : World) : Prop := ∃ (a : Int) (vb : Value) (ys : List Int), cnt = .int .i64 a ∧ sb = vb ∧ 0 ≤ a ∧ a ≤ t.W.size + 1 ∧ RSt w va vb xs ys wr ∧ wr.heap[bx]? = some ox ∧ wr.heap[bp]? = some op ∧ PFd t T M st R r c k a a ys
def RR7 (r c k : Nat) (a : Int) (va : Value) (xs : List Int) (cnt sb : Value) (wr : World) : Prop := ∃ (b : Int) (vb : Value) (ys : List Int), cnt = .int .i64 b ∧ sb = vb ∧ a ≤ b ∧ b ≤ t.W.size + 1 ∧ RSt w va vb xs ys wr ∧ wr.heap[bx]? = some ox ∧ wr.heap[bp]? = some op ∧ PFd t T M st R r c k a b ys
/-- What a round answers. -/
def RoundPost (e : Ending) (w' : World) : Prop := ∃ (va vb : Value) (xs ys : List Int), e = .returned (.tuple #[va, vb]) ∧ RSt w va vb xs ys w' ∧ RFd t T R xs ys
end
theorem keep_grown {wr w1 : World} {va : Value} {xs : List Int} {base b : Nat} {cs : Array Value} {ty : TypeId} (h : wr.heap[b]? = some (.cells cs ty (0, 0))) (ho : Own Rd.int 3 base wr va xs) (hne : ty ≠ 3) (hg : wr.grownBy w1 va.ownBlock) : w1.heap[b]? = some (.cells cs ty (0, 0)) :=
  blk_grown h hg (fun e => by obtain ⟨cur, hc⟩ := own_block_type ho e.symm; exact blk_type_ne h hc hne rfl)

set_option maxRecDepth 100000 in
set_option maxHeartbeats 16000000 in
theorem rround_any {w : World} {t : RT} (A : RTAt w t) (F : t.Fits) {T M st : Rk × Rk} {R : Int} (H : Truth t.G t.W T) (MM : Mem t.G t.W T M) (I : RInv t.G t.W T R st) (hR : 1 ≤ R) (RN : FlatAt w t t.nb t.G.names.length M.1) (RP : FlatAt w t t.rb (qG t.G) M.2)
    {b1 L1 c1 b2 L2 c2 : Nat} (hL1 : L1 = t.G.names.length * t.S) (hL2 : L2 = qG t.G * t.S) (SN : FlatAt w t b1 t.G.names.length st.1) (SP : FlatAt w t b2 (qG t.G) st.2) :
    Calls Tryz.prog 44 #[.pointer (some ⟨t.p, 0, none⟩), .slice (some ⟨b1, 0, none⟩) L1 c1, .slice (some ⟨b2, 0, none⟩) L2 c2] w (RoundPost w t T R) := by
  have hW := F.W32
  have hK := F.may.K64
  have hQ := (gfits_of (lev := List.replicate t.G.names.length 0) F.may (by simp)).Q
  have hRL := F.may.rules
  have g2 := A.c2
  have g3 := A.c3
  have HA := Lib.hid A
  have HN := Lib.hid RN
  have HP := Lib.hid RP
  have HSN := Lib.hid SN
  have HSP := Lib.hid SP
  have HL1 := Lib.hid hL1
  have HL2 := Lib.hid hL2
  clear A RN RP SN SP hL1 hL2
  go_enter Tryz.func44, Tryz.ntmps44
  go_wp2_with fail
  clear g2 g3
  go_loopw [11, 8, 9] (fun cnt sa sb wr => RR1 w t T M st R cnt sa sb wr) (fun cnt _ _ _ => t.G.rules.length - (intOf cnt).toNat)
  case atStart => exact ⟨0, _, _, [], [], rfl, rfl, rfl, Nat.zero_le _, ⟨Own.nil _ _ _ _, Own.nil _ _ _ _, fun b hb => (by cases hb), below_refl _⟩, NFd.start, PFd.start⟩
  case round =>
    obtain ⟨r, va, vb, xs, ys, rfl, rfl, rfl, hr, hst, hnf, hpf⟩ := hrel
    have HS := Lib.hid hst
    have HNF := Lib.hid hnf
    have HPF := Lib.hid hpf
    have g2 := (HA.out.below hst.U).c2
    obtain ⟨Aa, ka, rfl, -, -, -⟩ := id hst.A.shape
    obtain ⟨Ab, kb, rfl, -, -, -⟩ := id hst.B.shape
    clear hst hnf hpf
    by_cases hlt : r < t.G.rules.length
    · obtain ⟨x, hx⟩ : ∃ x, t.G.rules[r]? = some x := ⟨_, List.getElem?_eq_getElem hlt⟩
      obtain ⟨rd, Ac, cc, eA, -, r0, r1, -, -, hCC⟩ := rul_at HA.out.rul hx
      have r0 := below_cell HS.out.U r0
      have r1 := below_cell HS.out.U r1
      rw [eA] at g2
      have b1' : (r : Int) < t.G.rules.length := by omega
      have hhd := F.may.head r x hx
      have hcl := (F.may.conj r x hx).2
      obtain ⟨h, hh⟩ : ∃ h : Nat, x.head = (h : Int) := ⟨x.head.toNat, by omega⟩
      have hhk : h < t.G.names.length := by omega
      have HHN := Lib.hid (show x.head.toNat = h by omega)
      rw [hh] at r0
      have HXX := Lib.hid hx
      have hb0 := below_alloc' (below_refl wr) (Obj.cells #[Value.int .i64 h, Value.slice Ac x.conj.length cc] 47)
      have B0 := heap_alloc_new wr (Obj.cells #[Value.int .i64 h, Value.slice Ac x.conj.length cc] 47)
      have HS0 := Lib.hid (HS.out.below hb0)
      have HCC := Lib.hid hCC
      obtain ⟨bx, hbx⟩ : ∃ bx, bx = wr.heap.size := ⟨_, rfl⟩
      have HX := Lib.hid B0
      clear hx eA hh hhd hCC hb0 B0
      go_wp2_with fail
      rw [← hbx] at HX ⊢
      clear hbx g2 r0 r1 HS
      generalize wr.alloc (Obj.cells #[Value.int .i64 h, Value.slice Ac x.conj.length cc] 47) = w0 at HX HS0 ⊢
      go_loopw [13, 8] (fun cnt sa wi => RR2 w bx (.cells #[Value.int .i64 h, Value.slice Ac x.conj.length cc] 47 (0, 0)) t T M st R r (.slice Ab ys.length kb) ys cnt sa wi) (fun cnt _ _ => (t.W.size + 1 - intOf cnt).toNat)
      case atStart => exact ⟨0, _, xs, rfl, rfl, by omega, by omega, HS0.out, HX.out, HNF.out⟩
      case round =>
        clear HS0 HNF
        obtain ⟨a, va2, xs2, rfl, rfl, ha0, ha1, hst, hbw, hnf⟩ := hrel
        have HS := Lib.hid hst
        have HNF := Lib.hid hnf
        have HBW := Lib.hid hbw
        obtain ⟨Aa2, ka2, rfl, -, -, -⟩ := id hst.A.shape
        clear hst hnf hbw
        by_cases ham : a ≤ t.W.size
        · have da : decide (a ≤ (t.W.size : Int)) = true := decide_eq_true ham
          go_wp2_with fail
          go_loopw [14, 8] (fun cnt sa wi => RR3 w bx (.cells #[Value.int .i64 h, Value.slice Ac x.conj.length cc] 47 (0, 0)) t T M st R r a (.slice Ab ys.length kb) ys cnt sa wi) (fun cnt _ _ => (t.W.size + 1 - intOf cnt).toNat)
          case atStart => exact ⟨a, _, xs2, rfl, rfl, by omega, by omega, HS.out, HBW.out, HNF.out⟩
          case round =>
            clear HS HNF HBW
            obtain ⟨b, va3, xs3, rfl, rfl, hb0, hb1, hst, hbw, hnf⟩ := hrel
            have HS := Lib.hid hst
            have HNF := Lib.hid hnf
            have HBW := Lib.hid hbw
            clear hst hnf hbw
            by_cases hbm : b ≤ t.W.size
            · have db : decide (b ≤ (t.W.size : Int)) = true := decide_eq_true hbm
              have Y0 := Lib.hid (show wr.cell? ⟨bx, 0, none⟩ = some (.int .i64 h) from blk_cell HBW.out 0)
              have HA1 := Lib.hid (HA.out.below HS.out.U)
              have C4 := Lib.hid HA1.out.c4
              obtain ⟨P, sv, FF⟩ := flat_facts hW (show t.G.names.length ≤ 100000 by omega) hhk ha0 hb0 hbm
              have e1 := FF.e1
              have e2 := FF.e2
              have hx0 := FF.s0
              have HIX := Lib.hid FF.ix
              have B1 := Lib.hid FF.b1
              have HSP0 := Lib.hid (show ∀ w5, Below wr.heap.size wr w5 → Calls Tryz.prog 45 #[.pointer (some ⟨t.p, 0, none⟩), .int .i64 a, .int .i64 b] w5 fun e w' => e = .returned (.int .i64 sv) ∧ Below w5.heap.size w5 w' from fun w5 h5 => by rw [← FF.sp]; exact (rspan_any (HA1.out.below h5) hW a b).mono fun e w' h => ⟨h.1, h.2 ▸ below_refl _⟩)
              clear FF
              go_wp2_with fail
              refine wp_region_below (by kernel_rfl) (by kernel_rfl) ?_
              repeat (first
                | (refine qv_skip (by rfl) ?_; simp only [Act.put, List.setIfInBounds_toArray, List.set_cons_zero, List.set_cons_succ])
                | (refine qv_val' (by rfl) ?_; apply Exists.intro; refine ⟨fun w5 hC => ?_, ?_⟩; (have qqr0 := below_cell hC Y0.out; have qqr1 := below_cell hC C4.out; go_simp; rfl); simp only [Act.put, List.setIfInBounds_toArray, List.set_cons_zero, List.set_cons_succ])
                | (refine qv_call' (by rfl) ?_; apply Exists.intro; apply Exists.intro; apply Exists.intro; refine ⟨fun w5 hC => ?_, fun w5 hC => ?_, ?_⟩; (go_simp; first | rfl | exact ⟨rfl, rfl⟩); (first | (go_at_call 45; with_reducible exact calls_in hC (HSP0.out w5 hC))); simp only [Act.put, List.setIfInBounds_toArray, List.set_cons_zero, List.set_cons_succ]))
              refine qv_nil ?_
              intro w5 hC
              have HB5 := Lib.hid hC
              clear hC e1 e2 Y0 C4 HSP0
              have HS5 := Lib.hid (HS.out.below HB5.out)
              have HBW5 := Lib.hid (blk_below HBW.out HB5.out)
              clear HS HBW HA1
              have HA5 := Lib.hid (HA.out.below HS5.out.U)
              have j5 := HA5.out.c5
              obtain ⟨j8, j9⟩ := (HN.out.below HS5.out.U) h a b hhk ha0 (by omega) (by omega) hbm
              obtain ⟨j6, j7⟩ := (HSN.out.below HS5.out.U) h a b hhk ha0 (by omega) (by omega) hbm
              rw [HIX.out] at j8 j6
              obtain ⟨m, hm⟩ : ∃ m, m = M.1 h a b := ⟨_, rfl⟩
              obtain ⟨s, hs⟩ : ∃ s, s = st.1 h a b := ⟨_, rfl⟩
              rw [← hm] at j8
              rw [← hs] at j6
              obtain ⟨LL, hLL⟩ : ∃ LL, LL = t.G.names.length * t.S := ⟨_, rfl⟩
              have b7 : (P : Int) + sv < LL := by rw [hLL]; exact B1.out
              have b7' : (P : Int) + sv < L1 := by rw [HL1.out]; exact B1.out
              have b8 : 0 ≤ (P : Int) + sv := by omega
              rw [← hLL] at j5
              obtain ⟨bh, hbh⟩ : ∃ v, v = holdsR (offG t.G r) M.2 x.conj a b := ⟨_, rfl⟩
              obtain ⟨bk, hbk⟩ : ∃ v, v = rankedR (offG t.G r) st.2 x.conj a b := ⟨_, rfl⟩
              have HCN := Lib.hid (show cN t.G M st r x a b = (decide (0 < m) && ((s == 0) && (bh && bk))) by unfold cN; rw [HHN.out, ← hm, ← hs, ← hbh, ← hbk])
              have HR1 := Lib.hid (show Calls Tryz.prog 16 #[.pointer (some ⟨t.p, 0, none⟩), .int .i64 r, .int .i64 a, .int .i64 b] w5 fun e w' => e = .returned (.bool bh) ∧ Below w5.heap.size w5 w' by
                rw [hbh]
                exact rholds_any HA5.out F (HP.out.below HS5.out.U) HXX.out ha0 hb0 hbm)
              have HR2 := Lib.hid (show ∀ w6, Below w5.heap.size w5 w6 → Calls Tryz.prog 67 #[.pointer (some ⟨t.p, 0, none⟩), .slice (some ⟨b2, 0, none⟩) L2 c2, .int .i64 r, .int .i64 a, .int .i64 b] w6 fun e w' => e = .returned (.bool bk) ∧ Below w6.heap.size w6 w' from fun w6 h6 => by
                rw [hbk]
                exact rranked_any (HA5.out.below h6) F HL2.out ((HSP.out.below HS5.out.U).below h6) HXX.out ha0 hb0 hbm)
              have HLL := Lib.hid hLL
              clear hLL hm hs hbh hbk j7 j9 B1
              cases dm : decide (0 < m) with
              | false =>
                rw [dm] at HCN
                go_wp2_with fail
                go_roundw
                case rel => exact ⟨b + 1, _, xs3, by go_num, rfl, by omega, by omega, HS5.out, HBW5.out, HNF.out.pass HXX.out (by rw [HCN.out]; rfl)⟩
                case measure => simp [intOf]; omega
              | true =>
                rw [dm] at HCN
                cases ds : (s == 0) with
                | false =>
                  rw [ds] at HCN
                  go_wp2_with fail
                  go_roundw
                  case rel => exact ⟨b + 1, _, xs3, by go_num, rfl, by omega, by omega, HS5.out, HBW5.out, HNF.out.pass HXX.out (by rw [HCN.out]; rfl)⟩
                  case measure => simp [intOf]; omega
                | true =>
                  rw [ds] at HCN
                  cases bh with
                  | false =>
                    go_wp2_with (first | (go_at_call 16; refine HR1.out.mono ?_; rintro e w6 ⟨rfl, hb6⟩; have HB6 := Lib.hid hb6; clear hb6) | fail)
                    go_roundw
                    case rel => exact ⟨b + 1, _, xs3, by go_num, rfl, by omega, by omega, HS5.out.below HB6.out, blk_below HBW5.out HB6.out, HNF.out.pass HXX.out (by rw [HCN.out]; rfl)⟩
                    case measure => simp [intOf]; omega
                  | true =>
                    cases bk with
                    | false =>
                      go_wp2_with (first | (go_at_call 16; refine HR1.out.mono ?_; rintro e w6 ⟨rfl, hb6⟩; have HB6 := Lib.hid hb6; clear hb6) | (go_at_call 67; refine (HR2.out w6 HB6.out).mono ?_; rintro e w7 ⟨rfl, hb7⟩; have HB7 := Lib.hid (below_trans HB6.out hb7); clear hb7) | fail)
                      go_roundw
                      case rel => exact ⟨b + 1, _, xs3, by go_num, rfl, by omega, by omega, HS5.out.below HB7.out, blk_below HBW5.out HB7.out, HNF.out.pass HXX.out (by rw [HCN.out]; rfl)⟩
                      case measure => simp [intOf]; omega
                    | true =>
                      have HPUT := Lib.hid (show NFd t T M st R r a (b + 1) (xs3 ++ [(P : Int) + sv]) by
                        have := HNF.out.put H MM I hR HXX.out (by rw [HHN.out]; exact hhk) ha0 hb0 hbm (by rw [HCN.out]; rfl)
                        rw [HHN.out, HIX.out, show ((((P : Int) + sv).toNat : Nat) : Int) = (P : Int) + sv by omega] at this
                        exact this)
                      have hlen : xs3.length ≤ 1000000 := by have := HNF.out.len; omega
                      obtain ⟨Ax, kx, ex, -, -, -⟩ := id HS5.out.A.shape
                      subst ex
                      go_wp2_with (first
                        | (go_at_call 16; refine HR1.out.mono ?_; rintro e w6 ⟨rfl, hb6⟩; have HB6 := Lib.hid hb6; clear hb6)
                        | (go_at_call 67; refine (HR2.out w6 HB6.out).mono ?_; rintro e w7 ⟨rfl, hb7⟩; have HB7 := Lib.hid (below_trans HB6.out hb7); have HS7 := Lib.hid (HS5.out.below (below_trans HB6.out hb7)); clear hb7)
                        | (at_builtin; refine wpList_append_one (d := Rd.int) rfl (base := w.heap.size) (.tmp 98) (.tmp 100) 84 3 _ 8 (by rfl) Tryz.underlying84 infoInt (by rfl) (by decide) (v := .slice Ax xs3.length kx) (xs := xs3) (by rfl) (HS7.out.A.below (below_alloc' (below_refl _) _)) ((P : Int) + sv) #[.int .i64 ((P : Int) + sv)] (fun _ _ => rfl) (b := w7.heap.size) (c := 1) (by rfl) (heap_alloc_new w7 _) (by omega) (by decide) (by have := HS7.out.U.size; simp; omega) ?_; intro v8 w8 o8 g8 t8; have O8 := Lib.hid o8; have G8 := Lib.hid g8; have T8 := Lib.hid t8; clear o8 g8 t8)
                        | fail)
                      go_roundw
                      case rel => exact ⟨b + 1, _, _, by go_num, rfl, by omega, by omega, (HS7.out.below (below_alloc' (below_refl _) _)).moreA O8.out G8.out T8.out, keep_grown (blk_below (blk_below HBW5.out HB7.out) (below_alloc' (below_refl _) _)) (HS7.out.below (below_alloc' (below_refl _) _)).A (by decide) G8.out, HPUT.out⟩
                      case measure => simp [intOf]; omega
            · have hbe : b = t.W.size + 1 := by omega
              have db : decide (b ≤ (t.W.size : Int)) = false := decide_eq_false (by omega)
              go_wp2_with fail
              go_roundw
              case rel => exact ⟨a + 1, _, xs3, by go_num, rfl, by omega, by omega, HS.out, HBW.out, HNF.out.nextA hW ha0 hbe⟩
              case measure => simp [intOf]; omega
        · have hae : a = t.W.size + 1 := by omega
          have da : decide (a ≤ (t.W.size : Int)) = false := decide_eq_false (by omega)
          have HNF' := Lib.hid (HNF.out.nextR hW hae rfl)
          have q1 : wr.cell? ⟨bx, 1, none⟩ = some (.slice Ac x.conj.length cc) := blk_cell HBW.out 1
          clear HNF hae
          go_wp2_with fail
          clear q1
          go_loopw [16, 9] (fun cnt sb wi => RR4 w bx (.cells #[Value.int .i64 h, Value.slice Ac x.conj.length cc] 47 (0, 0)) t T M st R r x (.slice Aa2 xs2.length ka2) xs2 cnt sb wi) (fun cnt _ _ => x.conj.length - (intOf cnt).toNat)
          case atStart => exact ⟨0, _, ys, rfl, rfl, Nat.zero_le _, HS.out, HBW.out, HPF.out⟩
          case round =>
            clear HS HBW HPF
            obtain ⟨c, vb4, ys4, rfl, rfl, hc, hst, hbw, hpf⟩ := hrel
            have HS := Lib.hid hst
            have HPF := Lib.hid hpf
            have HBW := Lib.hid hbw
            have hCC2 := HCC.out.mono hst.U
            have q1 : wr.cell? ⟨bx, 1, none⟩ = some (.slice Ac x.conj.length cc) := blk_cell hbw 1
            clear hst hpf hbw
            by_cases hltc : c < x.conj.length
            · obtain ⟨y, hy⟩ : ∃ y, x.conj[c]? = some y := ⟨_, List.getElem?_eq_getElem hltc⟩
              have b3 : (c : Int) < x.conj.length := by omega
              have hsl := F.may.seq r x c y HXX.out hy
              have HY := Lib.hid hy
              clear hy hCC2
              go_wp2_with fail
              clear q1
              go_loopw [17, 9] (fun cnt sb wi => RR5 w bx (.cells #[Value.int .i64 h, Value.slice Ac x.conj.length cc] 47 (0, 0)) t T M st R r c y (.slice Aa2 xs2.length ka2) xs2 cnt sb wi) (fun cnt _ _ => y.seq.length + 1 - (intOf cnt).toNat)
              case atStart => exact ⟨0, _, ys4, rfl, rfl, Nat.zero_le _, HS.out, HBW.out, HPF.out⟩
              case round =>
                clear HS HBW HPF
                obtain ⟨k, vb5, ys5, rfl, rfl, hk, hst, hbw, hpf⟩ := hrel
                have HS := Lib.hid hst
                have HPF := Lib.hid hpf
                have HBW := Lib.hid hbw
                obtain ⟨cd, As, cs, eC, -, s0, s1, -⟩ := conj_at (HCC.out.mono hst.U) HY.out
                have q1 : wr.cell? ⟨bx, 1, none⟩ = some (.slice Ac x.conj.length cc) := blk_cell hbw 1
                rw [eC] at q1
                have b3 : (c : Int) < x.conj.length := by omega
                clear hst hpf hbw eC
                by_cases hltk : k ≤ y.seq.length
                · have dk : decide ((k : Int) ≤ (y.seq.length : Int)) = true := decide_eq_true (by omega)
                  have HPL := Lib.hid (show PlG t.G r c k x y from ⟨HXX.out, HY.out, hltk⟩)
                  have hb1 := below_alloc' (below_refl wr) (Obj.cells #[Value.int .i64 r, Value.int .i64 c, Value.int .i64 k] 57)
                  have B1 := heap_alloc_new wr (Obj.cells #[Value.int .i64 r, Value.int .i64 c, Value.int .i64 k] 57)
                  have HS1 := Lib.hid (HS.out.below hb1)
                  have HBW1 := Lib.hid (blk_below HBW.out hb1)
                  obtain ⟨bp, hbp⟩ : ∃ bp, bp = wr.heap.size := ⟨_, rfl⟩
                  rw [← hbp] at B1
                  have HBP := Lib.hid B1
                  clear B1 hb1
                  go_wp2_with fail
                  rw [← hbp]
                  clear hbp q1 s0 s1 HS HBW
                  generalize wr.alloc (Obj.cells #[Value.int .i64 r, Value.int .i64 c, Value.int .i64 k] 57) = w1 at HS1 HBW1 HBP ⊢
                  go_loopw [19, 9] (fun cnt sb wi => RR6 w bx (.cells #[Value.int .i64 h, Value.slice Ac x.conj.length cc] 47 (0, 0)) bp (.cells #[Value.int .i64 r, Value.int .i64 c, Value.int .i64 k] 57 (0, 0)) t T M st R r c k (.slice Aa2 xs2.length ka2) xs2 cnt sb wi) (fun cnt _ _ => (t.W.size + 1 - intOf cnt).toNat)
                  case atStart => exact ⟨0, _, ys5, rfl, rfl, by omega, by omega, HS1.out, HBW1.out, HBP.out, HPF.out⟩
                  case round =>
                    clear HS1 HBW1 HBP HPF
                    obtain ⟨a', vb6, ys6, rfl, rfl, ha0', ha1', hst, hbw, hbp, hpf⟩ := hrel
                    have HS := Lib.hid hst
                    have HPF := Lib.hid hpf
                    have HBW := Lib.hid hbw
                    have HBP := Lib.hid hbp
                    clear hst hpf hbw hbp
                    by_cases ham' : a' ≤ t.W.size
                    · have da : decide (a' ≤ (t.W.size : Int)) = true := decide_eq_true ham'
                      go_wp2_with fail
                      go_loopw [20, 9] (fun cnt sb wi => RR7 w bx (.cells #[Value.int .i64 h, Value.slice Ac x.conj.length cc] 47 (0, 0)) bp (.cells #[Value.int .i64 r, Value.int .i64 c, Value.int .i64 k] 57 (0, 0)) t T M st R r c k a' (.slice Aa2 xs2.length ka2) xs2 cnt sb wi) (fun cnt _ _ => (t.W.size + 1 - intOf cnt).toNat)
                      case atStart => exact ⟨a', _, ys6, rfl, rfl, by omega, by omega, HS.out, HBW.out, HBP.out, HPF.out⟩
                      case round =>
                        clear HS HPF HBW HBP
                        obtain ⟨b, vb7, ys7, rfl, rfl, hb0, hb1, hst, hbw, hbp, hpf⟩ := hrel
                        have HS := Lib.hid hst
                        have HPF := Lib.hid hpf
                        have HBW := Lib.hid hbw
                        have HBP := Lib.hid hbp
                        clear hst hpf hbw hbp
                        by_cases hbm : b ≤ t.W.size
                        · have db : decide (b ≤ (t.W.size : Int)) = true := decide_eq_true hbm
                          have hoq := off_lt HPL.out
                          have Z0 := Lib.hid (show wr.cell? ⟨bp, 0, none⟩ = some (.int .i64 r) from blk_cell HBP.out 0)
                          have Z1 := Lib.hid (show wr.cell? ⟨bp, 1, none⟩ = some (.int .i64 c) from blk_cell HBP.out 1)
                          have Z2 := Lib.hid (show wr.cell? ⟨bp, 2, none⟩ = some (.int .i64 k) from blk_cell HBP.out 2)
                          have HA1 := Lib.hid (HA.out.below HS.out.U)
                          have C4 := Lib.hid HA1.out.c4
                          obtain ⟨P, sv, FF⟩ := flat_facts hW hQ hoq ha0' hb0 hbm
                          obtain ⟨pl, hpl⟩ : ∃ pl, pl = offG t.G r c + k := ⟨_, rfl⟩
                          have e1 := FF.e1
                          have e2 := FF.e2
                          rw [← hpl] at e1
                          have hx0 := FF.s0
                          have HIX := Lib.hid FF.ix
                          have B1 := Lib.hid FF.b1
                          have HPC := Lib.hid (show ∀ w5, Below wr.heap.size wr w5 → Calls Tryz.prog 66 #[.pointer (some ⟨t.p, 0, none⟩), .agg #[.int .i64 r, .int .i64 c, .int .i64 k]] w5 fun e w' => e = .returned (.int .i64 (pl : Int)) ∧ Below w5.heap.size w5 w' from fun w5 h5 => by rw [hpl]; exact rplace_at (HA1.out.below h5) F HPL.out)
                          have HSP0 := Lib.hid (show ∀ w5, Below wr.heap.size wr w5 → Calls Tryz.prog 45 #[.pointer (some ⟨t.p, 0, none⟩), .int .i64 a', .int .i64 b] w5 fun e w' => e = .returned (.int .i64 sv) ∧ Below w5.heap.size w5 w' from fun w5 h5 => by rw [← FF.sp]; exact (rspan_any (HA1.out.below h5) hW a' b).mono fun e w' h => ⟨h.1, h.2 ▸ below_refl _⟩)
                          have HPE := Lib.hid hpl
                          clear FF hpl
                          go_wp2_with fail
                          refine wp_region_below (by kernel_rfl) (by kernel_rfl) ?_
                          repeat (first
                            | (refine qv_skip (by rfl) ?_; simp only [Act.put, List.setIfInBounds_toArray, List.set_cons_zero, List.set_cons_succ])
                            | (refine qv_val' (by rfl) ?_; apply Exists.intro; refine ⟨fun w5 hC => ?_, ?_⟩; (have qqr0 := below_cell hC Z0.out; have qqr1 := below_cell hC Z1.out; have qqr2 := below_cell hC Z2.out; have qqr3 := below_cell hC C4.out; go_simp; rfl); simp only [Act.put, List.setIfInBounds_toArray, List.set_cons_zero, List.set_cons_succ])
                            | (refine qv_call' (by rfl) ?_; apply Exists.intro; apply Exists.intro; apply Exists.intro; refine ⟨fun w5 hC => ?_, fun w5 hC => ?_, ?_⟩; (go_simp; first | rfl | exact ⟨rfl, rfl⟩); (first | (go_at_call 66; exact calls_in hC (HPC.out w5 hC)) | (go_at_call 45; exact calls_in hC (HSP0.out w5 hC))); simp only [Act.put, List.setIfInBounds_toArray, List.set_cons_zero, List.set_cons_succ]))
                          refine qv_nil ?_
                          intro w5 hC
                          have HB5 := Lib.hid hC
                          clear hC e1 e2 Z0 Z1 Z2 C4 HSP0 HPC
                          have HS5 := Lib.hid (HS.out.below HB5.out)
                          have HBW5 := Lib.hid (blk_below HBW.out HB5.out)
                          have HBP5 := Lib.hid (blk_below HBP.out HB5.out)
                          clear HS HBW HBP HA1
                          have HA5 := Lib.hid (HA.out.below HS5.out.U)
                          have j5 := HA5.out.c7
                          have z0 : w5.cell? ⟨bp, 0, none⟩ = some (.int .i64 r) := blk_cell HBP5.out 0
                          have z1 : w5.cell? ⟨bp, 1, none⟩ = some (.int .i64 c) := blk_cell HBP5.out 1
                          have z2 : w5.cell? ⟨bp, 2, none⟩ = some (.int .i64 k) := blk_cell HBP5.out 2
                          obtain ⟨j8, j9⟩ := (HP.out.below HS5.out.U) (offG t.G r c + k) a' b hoq ha0' (by omega) (by omega) hbm
                          obtain ⟨j6, j7⟩ := (HSP.out.below HS5.out.U) (offG t.G r c + k) a' b hoq ha0' (by omega) (by omega) hbm
                          rw [HIX.out] at j8 j6
                          obtain ⟨m, hm⟩ : ∃ m, m = M.2 (offG t.G r c + k) a' b := ⟨_, rfl⟩
                          obtain ⟨s, hs⟩ : ∃ s, s = st.2 (offG t.G r c + k) a' b := ⟨_, rfl⟩
                          rw [← hm] at j8
                          rw [← hs] at j6
                          obtain ⟨LL, hLL⟩ : ∃ LL, LL = qG t.G * t.S := ⟨_, rfl⟩
                          have b7 : (P : Int) + sv < LL := by rw [hLL]; exact B1.out
                          have b7' : (P : Int) + sv < L2 := by rw [HL2.out]; exact B1.out
                          have b8 : 0 ≤ (P : Int) + sv := by omega
                          rw [← hLL] at j5
                          obtain ⟨bk, hbk⟩ : ∃ v, v = restR t.W st.1 st.2 y.seq (offG t.G r c) k a' b := ⟨_, rfl⟩
                          have HCN := Lib.hid (show cP t.G t.W M st r c k y a' b = (decide (0 < m) && ((s == 0) && bk)) by unfold cP; rw [← hm, ← hs, ← hbk])
                          have HR1 := Lib.hid (show Calls Tryz.prog 68 #[.pointer (some ⟨t.p, 0, none⟩), .slice (some ⟨b1, 0, none⟩) L1 c1, .slice (some ⟨b2, 0, none⟩) L2 c2, .agg #[.int .i64 r, .int .i64 c, .int .i64 k], .int .i64 a', .int .i64 b] w5 fun e w' => e = .returned (.bool bk) ∧ Below w5.heap.size w5 w' by
                            rw [hbk]
                            exact rsplit_any HA5.out F HL1.out HL2.out (HSN.out.below HS5.out.U) (HSP.out.below HS5.out.U) HPL.out ha0' hb0 hbm)
                          clear hLL hm hs hbk j7 j9 B1
                          cases dm : decide (0 < m) with
                          | false =>
                            rw [dm] at HCN
                            go_wp2_with fail
                            go_roundw
                            case rel => exact ⟨b + 1, _, ys7, by go_num, rfl, by omega, by omega, HS5.out, HBW5.out, HBP5.out, HPF.out.pass HPL.out (by rw [HCN.out]; rfl)⟩
                            case measure => simp [intOf]; omega
                          | true =>
                            rw [dm] at HCN
                            cases ds : (s == 0) with
                            | false =>
                              rw [ds] at HCN
                              go_wp2_with fail
                              go_roundw
                              case rel => exact ⟨b + 1, _, ys7, by go_num, rfl, by omega, by omega, HS5.out, HBW5.out, HBP5.out, HPF.out.pass HPL.out (by rw [HCN.out]; rfl)⟩
                              case measure => simp [intOf]; omega
                            | true =>
                              rw [ds] at HCN
                              cases bk with
                              | false =>
                                go_wp2_with (first | (go_at_call 68; refine HR1.out.mono ?_; rintro e w6 ⟨rfl, hb6⟩; have HB6 := Lib.hid hb6; clear hb6) | fail)
                                go_roundw
                                case rel => exact ⟨b + 1, _, ys7, by go_num, rfl, by omega, by omega, HS5.out.below HB6.out, blk_below HBW5.out HB6.out, blk_below HBP5.out HB6.out, HPF.out.pass HPL.out (by rw [HCN.out]; rfl)⟩
                                case measure => simp [intOf]; omega
                              | true =>
                                have HPUT := Lib.hid (show PFd t T M st R r c k a' (b + 1) (ys7 ++ [(P : Int) + sv]) by
                                  have := HPF.out.put H F.may MM I hR HPL.out ha0' hb0 hbm (by rw [HCN.out]; rfl)
                                  rw [HIX.out, show ((((P : Int) + sv).toNat : Nat) : Int) = (P : Int) + sv by omega] at this
                                  exact this)
                                have hlen : ys7.length ≤ 200000000 := by have := HPF.out.len; omega
                                obtain ⟨Ax, kx, ex, -, -, -⟩ := id HS5.out.B.shape
                                subst ex
                                go_wp2_with (first
                                  | (go_at_call 68; refine HR1.out.mono ?_; rintro e w7 ⟨rfl, hb7⟩; have HB7 := Lib.hid hb7; have HS7 := Lib.hid (HS5.out.below hb7); clear hb7)
                                  | (at_builtin; refine wpList_append_one (d := Rd.int) rfl (base := w.heap.size) (.tmp 172) (.tmp 174) 84 3 _ 8 (by rfl) Tryz.underlying84 infoInt (by rfl) (by decide) (v := .slice Ax ys7.length kx) (xs := ys7) (by rfl) (HS7.out.B.below (below_alloc' (below_refl _) _)) ((P : Int) + sv) #[.int .i64 ((P : Int) + sv)] (fun _ _ => rfl) (b := w7.heap.size) (c := 1) (by rfl) (heap_alloc_new w7 _) (by omega) (by decide) (by have := HS7.out.U.size; simp; omega) ?_; intro v8 w8 o8 g8 t8; have O8 := Lib.hid o8; have G8 := Lib.hid g8; have T8 := Lib.hid t8; clear o8 g8 t8)
                                  | fail)
                                go_roundw
                                case rel => exact ⟨b + 1, _, _, by go_num, rfl, by omega, by omega, (HS7.out.below (below_alloc' (below_refl _) _)).moreB O8.out G8.out T8.out, keep_grown (blk_below (blk_below HBW5.out HB7.out) (below_alloc' (below_refl _) _)) (HS7.out.below (below_alloc' (below_refl _) _)).B (by decide) G8.out, keep_grown (blk_below (blk_below HBP5.out HB7.out) (below_alloc' (below_refl _) _)) (HS7.out.below (below_alloc' (below_refl _) _)).B (by decide) G8.out, HPUT.out⟩
                                case measure => simp [intOf]; omega
                        · have hbe : b = t.W.size + 1 := by omega
                          have db : decide (b ≤ (t.W.size : Int)) = false := decide_eq_false (by omega)
                          go_wp2_with fail
                          go_roundw
                          case rel => exact ⟨a' + 1, _, ys7, by go_num, rfl, by omega, by omega, HS.out, HBW.out, HBP.out, HPF.out.nextA hW ha0' hbe⟩
                          case measure => simp [intOf]; omega
                    · have hae' : a' = t.W.size + 1 := by omega
                      have da : decide (a' ≤ (t.W.size : Int)) = false := decide_eq_false (by omega)
                      have HPF' := Lib.hid (HPF.out.nextK hW hae' rfl)
                      clear HPF hae'
                      go_wp2_with fail
                      go_roundw
                      case rel => exact ⟨k + 1, _, ys6, by go_num, rfl, by omega, HS.out, HBW.out, HPF'.out⟩
                      case measure => simp [intOf]; omega
                · have dk : decide ((k : Int) ≤ (y.seq.length : Int)) = false := decide_eq_false (by omega)
                  have HPF' := Lib.hid (HPF.out.nextC F.may HXX.out HY.out (by omega) rfl rfl)
                  clear HPF
                  go_wp2_with fail
                  go_roundw
                  case rel => exact ⟨c + 1, _, ys5, by go_num, rfl, by omega, HS.out, HBW.out, HPF'.out⟩
                  case measure => simp [intOf]; omega
            · have HPF' := Lib.hid (HPF.out.nextR F.may HXX.out (by omega) rfl rfl rfl)
              clear HPF
              go_wp2_with fail
              go_roundw
              case rel => exact ⟨r + 1, _, _, xs2, ys4, by go_num, rfl, rfl, by omega, HS.out, HNF'.out, HPF'.out⟩
              case measure => simp [intOf]; omega
    · have hre : r = t.G.rules.length := by omega
      have HRF := Lib.hid (RFd.of (by rw [← hre]; exact HNF.out) (by rw [← hre]; exact HPF.out) H F.may MM I hR)
      have b1' : ¬ ((r : Int) < t.G.rules.length) := by omega
      clear hre hlt
      go_wp2_with fail
      go_ret2
      exact ⟨_, _, xs, ys, rfl, HS.out, HRF.out⟩
end Go.Proofs.YtbidpeggdhkahaaGreat

set_option linter.unusedSimpArgs false
set_option linter.unusedVariables false
namespace Go.Proofs.YtbidpeggdhkahaaGreat
open Go.RowKit

theorem mkw_run (S : Nat) (h : S ≤ 200000000) : ∀ w : World, (Instr.makeSlice 84 (.int .i64 (S : Int)) (.int .i64 (S : Int))).run Tryz.prog w = .ok (.slice (some ⟨w.heap.size, 0, none⟩) S S) (w.alloc (zRow S)) := by
  intro w
  obtain ⟨i0, hi, hz0, hz1, hz2⟩ := info_parts infoInt
  have h := run_make (P := Tryz.prog) w 84 3 i0 (.int .i64 0) Tryz.underlying84 hi hz0 .i64 .i64 (S : Int) (S : Int) (by omega) (by omega) (by rw [hz2]; omega) (by omega)
  rw [h, hz1]
  simp only [Int.toNat_natCast, Nat.mul_one, zRow]
  rfl
theorem zRow_at {S k : Nat} (h : k < S) : (madeCells #[Value.int .i64 0] S)[k]? = some (.int .i64 0) := by
  rw [← Array.getElem?_toList, toList_madeCells_one]
  simp [h]
/-- A row of zeroes. -/
theorem flat_zero {w : World} {t : RT} {b N L : Nat} (hL : L = N * t.S) (h : w.heap[b]? = some (zRow L)) : FlatAt w t b N (fun _ _ _ => 0) := fun q i j hq i0 i1 j0 j1 => by
  have := ix_lt (t := t) (q := q) (N := N) hq i0 i1 j0 j1
  rw [← hL] at this
  exact ⟨by rw [blk_cell h]; exact zRow_at this, blk_frozen h _⟩
/-- The table's own cells: apart from all that it points to. -/
structure RSep (w : World) (t : RT) (tc : Array Value) : Prop where
  p : w.heap[t.p]? = some (.cells tc 89 (0, 0))
  g : ∃ wg : World, Below wg.heap.size wg w ∧ rulRd.C wg t.Ar t.G.rules ∧ wg.heap.size ≤ t.p
  cb : t.cb ≠ t.p
  ar : ∀ (r : Nat) (x : Rul), t.G.rules[r]? = some x → t.ar r ≠ t.p
def RT.rows (t : RT) (n1 x1 n2 x2 : Nat) : RT := { t with nb := n1, xN := x1, rb := n2, xR := x2 }
/-- The table gets its new rows. -/
theorem RTAt.rerow {w w1 : World} {t : RT} {tc : Array Value} (A : RTAt w1 t) (S : RSep w t tc) (hw : Below w.heap.size w w1) {n1 n2 L1 L2 x1 x2 : Nat} (h1 : L1 = t.G.names.length * t.S) (h2 : L2 = qG t.G * t.S) :
    RTAt ((w1.setCell ⟨t.p, 5, none⟩ (.slice (some ⟨n1, 0, none⟩) L1 x1)).setCell ⟨t.p, 7, none⟩ (.slice (some ⟨n2, 0, none⟩) L2 x2)) (t.rows n1 x1 n2 x2) := by
  have hne : ∀ {k m : Nat}, k ≠ m → (⟨t.p, k, none⟩ : Addr) ≠ ⟨t.p, m, none⟩ := fun h e => by injection e with _ e2; exact h e2
  obtain ⟨wg, g1, g2, g3⟩ := S.g
  have g4 : Below wg.heap.size wg ((w1.setCell ⟨t.p, 5, none⟩ (.slice (some ⟨n1, 0, none⟩) L1 x1)).setCell ⟨t.p, 7, none⟩ (.slice (some ⟨n2, 0, none⟩) L2 x2)) := below_setNew (below_setNew (below_trans g1 hw) g3 _) g3 _
  have hs : ∀ {a : Addr} {v : Value}, a.block ≠ t.p → w1.cell? a = some v → ((w1.setCell ⟨t.p, 5, none⟩ (.slice (some ⟨n1, 0, none⟩) L1 x1)).setCell ⟨t.p, 7, none⟩ (.slice (some ⟨n2, 0, none⟩) L2 x2)).cell? a = some v := fun h k => keep_set (keep_set k (Ne.symm h)) (Ne.symm h)
  have hk : ∀ {k : Nat} {v : Value}, k ≠ 5 → k ≠ 7 → w1.cell? ⟨t.p, k, none⟩ = some v → ((w1.setCell ⟨t.p, 5, none⟩ (.slice (some ⟨n1, 0, none⟩) L1 x1)).setCell ⟨t.p, 7, none⟩ (.slice (some ⟨n2, 0, none⟩) L2 x2)).cell? ⟨t.p, k, none⟩ = some v := fun h5 h7 k => by
    rw [World.cell?_setCell_other _ _ _ _ (hne (Ne.symm h7)), World.cell?_setCell_other _ _ _ _ (hne (Ne.symm h5))]; exact k
  refine ⟨hk (by decide) (by decide) A.c1, hk (by decide) (by decide) A.c2, hk (by decide) (by decide) A.c3, hk (by decide) (by decide) A.c4, ?_, hk (by decide) (by decide) A.c6, ?_, g2.mono g4, fun r x hx => ⟨hs S.cb (A.cj r x hx).1, fun c hc => hs (S.ar r x hx) ((A.cj r x hx).2 c hc)⟩⟩
  · change ((w1.setCell ⟨t.p, 5, none⟩ (.slice (some ⟨n1, 0, none⟩) L1 x1)).setCell ⟨t.p, 7, none⟩ (.slice (some ⟨n2, 0, none⟩) L2 x2)).cell? ⟨t.p, 5, none⟩ = some (.slice (some ⟨n1, 0, none⟩) (t.G.names.length * t.S) x1)
    rw [World.cell?_setCell_other _ _ _ _ (hne (k := 7) (m := 5) (by decide)), World.cell?_setCell_same _ _ _ A.c5]
    rw [h1]
  · have h7 : (w1.setCell ⟨t.p, 5, none⟩ (.slice (some ⟨n1, 0, none⟩) L1 x1)).cell? ⟨t.p, 7, none⟩ = some (.slice (some ⟨t.rb, 0, none⟩) (qG t.G * t.S) t.xR) := by rw [World.cell?_setCell_other _ _ _ _ (hne (k := 5) (m := 7) (by decide))]; exact A.c7
    change ((w1.setCell ⟨t.p, 5, none⟩ (.slice (some ⟨n1, 0, none⟩) L1 x1)).setCell ⟨t.p, 7, none⟩ (.slice (some ⟨n2, 0, none⟩) L2 x2)).cell? ⟨t.p, 7, none⟩ = some (.slice (some ⟨n2, 0, none⟩) (qG t.G * t.S) x2)
    rw [World.cell?_setCell_same _ _ _ h7, h2]
section
variable (w : World) (t : RT) (T : Rk × Rk) (n1 n2 : Nat)
def CutK (w : World) (L1 L2 : Nat) (s2 s3 : Value) (wx : World) : Prop := ∃ n1 n2 : Nat, s2 = .slice (some ⟨n1, 0, none⟩) L1 L1 ∧ s3 = .slice (some ⟨n2, 0, none⟩) L2 L2 ∧ n1 ≠ n2 ∧ w.heap.size ≤ n1 ∧ w.heap.size ≤ n2 ∧ wx.heap[n1]? = some (zRow L1) ∧ wx.heap[n2]? = some (zRow L2) ∧ Below w.heap.size w wx
def RK1 (cnt : Value) (wr : World) : Prop := ∃ (R : Int) (st : Rk × Rk), cnt = .int .i64 R ∧ 1 ≤ R ∧ R ≤ 110000001 ∧ RInv t.G t.W T R st ∧ FlatAt wr t n1 t.G.names.length st.1 ∧ FlatAt wr t n2 (qG t.G) st.2 ∧ Below w.heap.size w wr ∧ n1 < wr.heap.size ∧ n2 < wr.heap.size
def RK2 (w5 : World) (base : Nat) (va vb : Value) (xs ys : List Int) (R : Int) (st : Rk × Rk) (cnt : Value) (wr : World) : Prop := ∃ k : Nat, cnt = .int .i64 k ∧ k ≤ xs.length ∧ FlatAt wr t n1 t.G.names.length (markR t st.1 (xs.take k) R) ∧ FlatAt wr t n2 (qG t.G) st.2 ∧ Own Rd.int 3 base wr va xs ∧ Own Rd.int 3 base wr vb ys ∧ Upd (fun b => b = n1 ∨ b = n2) w5 wr
def RK3 (w5 : World) (base : Nat) (vb : Value) (xs ys : List Int) (R : Int) (st : Rk × Rk) (cnt : Value) (wr : World) : Prop := ∃ k : Nat, cnt = .int .i64 k ∧ k ≤ ys.length ∧ FlatAt wr t n1 t.G.names.length (markR t st.1 xs R) ∧ FlatAt wr t n2 (qG t.G) (markR t st.2 (ys.take k) R) ∧ Own Rd.int 3 base wr vb ys ∧ Upd (fun b => b = n1 ∨ b = n2) w5 wr
/-- What rank leaves. -/
def RankPost (e : Ending) (w' : World) : Prop := e = .returned (.tuple #[]) ∧ ∃ (n1 x1 n2 x2 : Nat) (st : Rk × Rk), RTAt w' (t.rows n1 x1 n2 x2) ∧ FlatAt w' t n1 t.G.names.length st.1 ∧ FlatAt w' t n2 (qG t.G) st.2 ∧ Upd (fun b => b = t.p) w w' ∧
  (∀ h (i j : Int), h < t.G.names.length → 0 ≤ i → i ≤ j → j ≤ t.W.size → st.1 h i j = T.1 h i j) ∧ (∀ r c pos x y (i j : Int), PlG t.G r c pos x y → 0 ≤ i → i ≤ j → j ≤ t.W.size → st.2 (offG t.G r c + pos) i j = T.2 (offG t.G r c + pos) i j) ∧ w.heap.size ≤ n1 ∧ w.heap.size ≤ n2
end
theorem markR_nil (t : RT) (f : Rk) (R : Int) : markR t f [] R = f := by funext q i j; simp [markR]
theorem lens_zero {xs ys : List Int} (h : ((xs.length : Int) + (ys.length : Int) == 0) = true) : xs = [] ∧ ys = [] := by
  rw [beq_iff_eq] at h
  exact ⟨List.eq_nil_of_length_eq_zero (by omega), List.eq_nil_of_length_eq_zero (by omega)⟩
theorem rfd_some {t : RT} {T : Rk × Rk} {R : Int} {xs ys : List Int} (H : Truth t.G t.W T) (h : RFd t T R xs ys) (hne : ((xs.length : Int) + (ys.length : Int) == 0) = false) : R ≤ 110000000 := by
  rw [beq_eq_false_iff_ne] at hne
  cases xs with
  | cons v xs =>
    obtain ⟨k, i, j, hk, i0, ij, j1, e⟩ := h.ns v (List.mem_cons_self)
    have h1 := (h.n k i j hk i0 ij j1).1 (by rw [← e]; exact List.mem_cons_self)
    rw [← h1]
    exact H.ub1 _ _ _
  | nil =>
    cases ys with
    | nil => simp at hne
    | cons v ys =>
      obtain ⟨r, c, k, x, y, i, j, p, i0, ij, j1, e⟩ := h.ps v (List.mem_cons_self)
      have h1 := (h.p r c k x y i j p i0 ij j1).1 (by rw [← e]; exact List.mem_cons_self)
      rw [← h1]
      exact H.ub2 _ _ _
theorem rfd_none {t : RT} {T st : Rk × Rk} {R : Int} (H : Truth t.G t.W T) (M0 : MayG t.G) (I : RInv t.G t.W T R st) (hR : 1 ≤ R) (h : RFd t T R [] []) :
    (∀ h (i j : Int), h < t.G.names.length → 0 ≤ i → i ≤ j → j ≤ t.W.size → st.1 h i j = T.1 h i j) ∧ (∀ r c pos x y (i j : Int), PlG t.G r c pos x y → 0 ≤ i → i ≤ j → j ≤ t.W.size → st.2 (offG t.G r c + pos) i j = T.2 (offG t.G r c + pos) i j) :=
  rinv_end I (round_end H M0 hR (fun k i j hk i0 ij j1 e => by have := (h.n k i j hk i0 ij j1).2 e; cases this) (fun r c pos x y i j p i0 ij j1 e => by have := (h.p r c pos x y i j p i0 ij j1).2 e; cases this))

set_option maxRecDepth 100000 in
set_option maxHeartbeats 16000000 in
theorem rrank_all {w : World} {t : RT} {tc : Array Value} (A : RTAt w t) (S : RSep w t tc) (F : t.Fits) {T M : Rk × Rk} (H : Truth t.G t.W T) (MM : Mem t.G t.W T M) (RN : FlatAt w t t.nb t.G.names.length M.1) (RP : FlatAt w t t.rb (qG t.G) M.2) :
    Calls Tryz.prog 29 #[.pointer (some ⟨t.p, 0, none⟩)] w (RankPost w t T) := by
  have hW := F.W32
  have hK := F.may.K64
  have hQ := (gfits_of (lev := List.replicate t.G.names.length 0) F.may (by simp)).Q
  have hSb := RT.S_bd hW
  have g5 := A.c5
  have g7 := A.c7
  have hB1 : t.G.names.length * t.S ≤ 64 * 1089 := Nat.mul_le_mul hK hSb.2
  have hB2 : qG t.G * t.S ≤ 100000 * 1089 := Nat.mul_le_mul hQ hSb.2
  obtain ⟨L1, hL1⟩ : ∃ L, L = t.G.names.length * t.S := ⟨_, rfl⟩
  obtain ⟨L2, hL2⟩ : ∃ L, L = qG t.G * t.S := ⟨_, rfl⟩
  rw [← hL1] at g5 hB1
  rw [← hL2] at g7 hB2
  have mk1 := mkw_run L1 (by omega)
  have mk2 := mkw_run L2 (by omega)
  have lp : t.p < w.heap.size := blk_lt S.p
  have HA := Lib.hid A
  have HS := Lib.hid S
  have HN := Lib.hid RN
  have HP := Lib.hid RP
  have HL1 := Lib.hid hL1
  have HL2 := Lib.hid hL2
  clear A S RN RP hL1 hL2 hSb
  go_enter Tryz.func29, Tryz.ntmps29
  go_upto_region 0 with fail
  go_cut [2, 3] (fun s2 s3 wx => CutK w L1 L2 s2 s3 wx)
  case first =>
    go_region_law (fail)
    all_goals
      go_wp2_with fail
      go_meet
      first
        | exact ⟨w.heap.size, w.heap.size + 1, rfl, rfl, by omega, by omega, by omega, heap_alloc2_old w (zRow L1) (zRow L2), heap_alloc2_new w (zRow L1) (zRow L2), below_drew' (below_alloc' (below_alloc' (below_refl w) _) _)⟩
        | exact ⟨w.heap.size + 1, w.heap.size, rfl, rfl, by omega, by omega, by omega, heap_alloc2_new w (zRow L2) (zRow L1), heap_alloc2_old w (zRow L2) (zRow L1), below_drew' (below_alloc' (below_alloc' (below_refl w) _) _)⟩
  case rest =>
    obtain ⟨n1, n2, rfl, rfl, hne, hn1, hn2, hz1, hz2, hb⟩ := hcut
    have HB := Lib.hid hb
    have hlt1 := blk_lt hz1
    have hlt2 := blk_lt hz2
    have HF1 := Lib.hid (flat_zero HL1.out hz1)
    have HF2 := Lib.hid (flat_zero HL2.out hz2)
    clear hb hz1 hz2 g5 g7 mk1 mk2
    obtain ⟨w2, hw2⟩ : ∃ w2, w2 = wc := ⟨_, rfl⟩
    rw [← hw2] at HB HF1 HF2 hlt1 hlt2 ⊢
    clear hw2 wc
    go_wp2_with fail
    go_loopw [4] (fun cnt wr => RK1 w t T n1 n2 cnt wr) (fun cnt _ => (110000002 - intOf cnt).toNat)
    case atStart => exact ⟨1, _, rfl, by omega, by omega, rinv_start H, HF1.out, HF2.out, HB.out, hlt1, hlt2⟩
    case round =>
      clear HF1 HF2 HB hlt1 hlt2
      obtain ⟨R, st, rfl, hR1, hR2, hi, hf1, hf2, hb, hlt1, hlt2⟩ := hrel
      have HI := Lib.hid hi
      have HB := Lib.hid hb
      have HF1 := Lib.hid hf1
      have HF2 := Lib.hid hf2
      have HC := Lib.hid (rround_any (c1 := L1) (c2 := L2) (HA.out.below hb) F H MM hi hR1 (HN.out.below hb) (HP.out.below hb) HL1.out HL2.out hf1 hf2)
      clear hi hb hf1 hf2
      go_upto_region 3 with (first | (go_at_call 44; refine HC.out.mono ?_; rintro e w5 ⟨va, vb, xs, ys, rfl, hst, hrf⟩; obtain ⟨Aa, ka, rfl, -, -, -⟩ := id hst.A.shape; obtain ⟨Ab, kb, rfl, -, -, -⟩ := id hst.B.shape; have hl1 := hrf.len.1; have hl2 := hrf.len.2; have HST := Lib.hid hst; have HRF := Lib.hid hrf; clear hst hrf) | fail)
      have HBw := Lib.hid (below_trans HB.out HST.out.U)
      cases hz : ((xs.length : Int) + (ys.length : Int) == 0) with
      | true =>
        obtain ⟨hx0, hy0⟩ := lens_zero hz
        have HE := Lib.hid (rfd_none H F.may HI.out hR1 (by have := HRF.out; rw [hx0, hy0] at this; exact this))
        have hp5 := blk_below HS.out.p HBw.out
        have x5 := (HA.out.below HBw.out).c5
        have x7 := (HA.out.below HBw.out).c7
        rw [← HL1.out] at x5
        rw [← HL2.out] at x7
        have f5 : w5.frozen? ⟨t.p, 5, none⟩ = false := blk_frozen hp5 5
        have y7 : (w5.setCell ⟨t.p, 5, none⟩ (.slice (some ⟨n1, 0, none⟩) L1 L1)).cell? ⟨t.p, 7, none⟩ = some (.slice (some ⟨t.rb, 0, none⟩) L2 t.xR) := by
          rw [World.cell?_setCell_other _ _ _ _ (by intro e; injection e with _ e2; exact absurd e2 (by decide))]
          exact x7
        have f7 : (w5.setCell ⟨t.p, 5, none⟩ (.slice (some ⟨n1, 0, none⟩) L1 L1)).frozen? ⟨t.p, 7, none⟩ = false := by simpa using blk_frozen hp5 7
        have N1 := Lib.hid (show n1 ≠ t.p by omega)
        have N2 := Lib.hid (show n2 ≠ t.p by omega)
        clear hx0 hy0 hp5 x7
        go_wp2_with fail
        go_end0
        exact ⟨rfl, n1, L1, n2, L2, st, RTAt.rerow (HA.out.below HBw.out) HS.out HBw.out HL1.out HL2.out, ((HF1.out.below HST.out.U).other (Ne.symm N1.out) _).other (Ne.symm N1.out) _, ((HF2.out.below HST.out.U).other (Ne.symm N2.out) _).other (Ne.symm N2.out) _, Upd.setCell (R := fun b => b = t.p) (p := ⟨t.p, 7, none⟩) (Upd.setCell (R := fun b => b = t.p) (p := ⟨t.p, 5, none⟩) (Upd.of_below HBw.out) rfl _) rfl _, HE.out.1, HE.out.2, hn1, hn2⟩
      | false =>
        have HR3 := Lib.hid (rfd_some H HRF.out hz)
        have HF1' := Lib.hid (HF1.out.below HST.out.U)
        have HF2' := Lib.hid (HF2.out.below HST.out.U)
        obtain ⟨b0, hb0⟩ : ∃ b0, b0 = wr.heap.size := ⟨_, rfl⟩
        have HOA := Lib.hid HST.out.A
        have HOB := Lib.hid HST.out.B
        rw [← hb0] at HOA HOB hlt1 hlt2
        have HS5 := Lib.hid (show b0 ≤ w5.heap.size by rw [hb0]; exact HST.out.U.size)
        clear hb0 HST HF1 HF2
        go_wp2_with fail
        go_loopw [7] (fun cnt wi => RK2 t n1 n2 w5 b0 (.slice Aa xs.length ka) (.slice Ab ys.length kb) xs ys R st cnt wi) (fun cnt _ => xs.length - (intOf cnt).toNat)
        case atStart => exact ⟨0, rfl, Nat.zero_le _, by rw [List.take_zero, markR_nil]; exact HF1'.out, HF2'.out, HOA.out, HOB.out, Upd.refl _ _⟩
        case round =>
          clear HOA HOB HF1' HF2'
          obtain ⟨k, rfl, hk, hf1, hf2, hoa, hob, hu⟩ := hrel
          have HF1 := Lib.hid hf1
          have HF2 := Lib.hid hf2
          have HOA := Lib.hid hoa
          have HOB := Lib.hid hob
          have HU := Lib.hid hu
          clear hf1 hf2 hoa hob hu
          by_cases hltk : k < xs.length
          · obtain ⟨v, hv⟩ : ∃ v, xs[k]? = some v := ⟨_, List.getElem?_eq_getElem hltk⟩
            obtain ⟨h, i, j, hh, i0, ij, j1, rfl⟩ := HRF.out.ns v (List.mem_of_getElem? hv)
            obtain ⟨g, cap, eg, hg, -⟩ := HOA.out.form (by omega)
            cases eg
            have x0 := HOA.out.one_at hv
            obtain ⟨j8, j9⟩ := HF1.out h i j hh i0 (by omega) (by omega) j1
            have hix := ix_lt (t := t) hh i0 (by omega) (by omega : 0 ≤ j) j1
            rw [← HL1.out] at hix
            have HMK := Lib.hid (fun wx (hx : FlatAt wx t n1 t.G.names.length (markR t st.1 (xs.take k) R)) => hx.mark hh i0 (by omega) (by omega : 0 ≤ j) j1)
            have HTK := Lib.hid (take_snoc hv)
            obtain ⟨p, hp⟩ : ∃ p, p = t.ix h i j := ⟨_, rfl⟩
            rw [← hp] at x0 j8 j9 hix HMK HTK
            have b1 : (k : Int) < xs.length := by omega
            have b2 : (p : Int) < L1 := by omega
            clear hv hp hix
            go_wp2_with fail
            go_roundw
            case rel =>
              have u7 : Upd (fun b => b = n1 ∨ b = n2) _ _ := (Upd.refl _ wr).setCell (p := ⟨n1, p, none⟩) (.inl rfl) (.int .i64 R)
              exact ⟨k + 1, by go_num, by omega, by rw [HTK.out]; exact HMK.out _ HF1.out, HF2.out.other hne _, HOA.out.upd u7 (by rintro b (rfl | rfl) <;> assumption), HOB.out.upd u7 (by rintro b (rfl | rfl) <;> assumption), HU.out.trans u7⟩
            case measure => simp [intOf]; omega
          · have hke : k = xs.length := by omega
            subst hke
            have HF1' := Lib.hid (show FlatAt wr t n1 t.G.names.length (markR t st.1 xs R) by have := HF1.out; rw [List.take_length] at this; exact this)
            clear HF1 HOA
            go_wp2_with fail
            go_loopw [8] (fun cnt wi => RK3 t n1 n2 w5 b0 (.slice Ab ys.length kb) xs ys R st cnt wi) (fun cnt _ => ys.length - (intOf cnt).toNat)
            case atStart => exact ⟨0, rfl, Nat.zero_le _, HF1'.out, by rw [List.take_zero, markR_nil]; exact HF2.out, HOB.out, HU.out⟩
            case round =>
              clear HOB HF1' HF2 HU
              obtain ⟨k, rfl, hk, hf1, hf2, hob, hu⟩ := hrel
              have HF1 := Lib.hid hf1
              have HF2 := Lib.hid hf2
              have HOB := Lib.hid hob
              have HU := Lib.hid hu
              clear hf1 hf2 hob hu
              by_cases hltk : k < ys.length
              · obtain ⟨v, hv⟩ : ∃ v, ys[k]? = some v := ⟨_, List.getElem?_eq_getElem hltk⟩
                obtain ⟨r', c', k', x', y', i, j, pl', i0, ij, j1, rfl⟩ := HRF.out.ps v (List.mem_of_getElem? hv)
                have hh := off_lt pl'
                obtain ⟨g, cap, eg, hg, -⟩ := HOB.out.form (by omega)
                cases eg
                have x0 := HOB.out.one_at hv
                obtain ⟨j8, j9⟩ := HF2.out (offG t.G r' c' + k') i j hh i0 (by omega) (by omega) j1
                have hix := ix_lt (t := t) hh i0 (by omega) (by omega : 0 ≤ j) j1
                rw [← HL2.out] at hix
                have HMK := Lib.hid (fun wx (hx : FlatAt wx t n2 (qG t.G) (markR t st.2 (ys.take k) R)) => hx.mark hh i0 (by omega) (by omega : 0 ≤ j) j1)
                have HTK := Lib.hid (take_snoc hv)
                obtain ⟨p, hp⟩ : ∃ p, p = t.ix (offG t.G r' c' + k') i j := ⟨_, rfl⟩
                rw [← hp] at x0 j8 j9 hix HMK HTK
                have b1 : (k : Int) < ys.length := by omega
                have b2 : (p : Int) < L2 := by omega
                clear hv hp hix
                go_wp2_with fail
                go_roundw
                case rel =>
                  have u7 : Upd (fun b => b = n1 ∨ b = n2) _ _ := (Upd.refl _ wr).setCell (p := ⟨n2, p, none⟩) (.inr rfl) (.int .i64 R)
                  exact ⟨k + 1, by go_num, by omega, HF1.out.other (Ne.symm hne) _, by rw [HTK.out]; exact HMK.out _ HF2.out, HOB.out.upd u7 (by rintro b (rfl | rfl) <;> assumption), HU.out.trans u7⟩
                case measure => simp [intOf]; omega
              · have hke : k = ys.length := by omega
                subst hke
                have HF2' := Lib.hid (show FlatAt wr t n2 (qG t.G) (markR t st.2 ys R) by have := HF2.out; rw [List.take_length] at this; exact this)
                have HRN := Lib.hid (rinv_next H HI.out hR1 HRF.out)
                have hR3 := HR3.out
                have HBE := Lib.hid (show Below w.heap.size w wr from HBw.out.trans (HU.out.below HBw.out.size (by rintro b (rfl | rfl) <;> assumption)))
                have HZ := Lib.hid (HU.out.size)
                clear HF2 HOB
                go_wp2_with fail
                go_roundw
                case rel => exact ⟨R + 1, _, by go_num, by omega, by omega, HRN.out, HF1.out, HF2'.out, HBE.out, by have := HZ.out; have := HS5.out; omega, by have := HZ.out; have := HS5.out; omega⟩
                case measure => simp [intOf]; omega
end Go.Proofs.YtbidpeggdhkahaaGreat
