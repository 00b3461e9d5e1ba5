/-
  Id: (*tree.grower).beneath.
-/
import Derived.Test.YtbidpeggdhkahaaIc
set_option linter.unusedSimpArgs false
set_option linter.unusedVariables false
namespace Go.Proofs.Ytbidpeggdhkahaa
open Go.RowKit

/-- A rule, and keys in a slice of the call's own. -/
def BenPost (w : World) (b : Int × List Ky) (e : Ending) (w' : World) : Prop :=
  ∃ A c, e = .returned (.tuple #[.int .i64 b.1, .slice A b.2.length c]) ∧ Own kyRd 59 w.heap.size w' (.slice A b.2.length c) b.2 ∧ Below w.heap.size w w'
theorem own_low {α : Type} {d : Rd α} {e : TypeId} {base base' : Nat} {w : World} {v : Value} {xs : List α} (h : Own d e base w v xs) (hb : base' ≤ base) : Own d e base' w v xs := by
  obtain ⟨css, q1, ⟨q2, q3⟩, q4⟩ := h
  refine ⟨css, q1, ⟨q2, q3.imp id ?_⟩, fun i x cs hx hc w' hu => q4 i x cs hx hc w' (hu.mono (fun b h => h.imp (fun h => Nat.lt_of_lt_of_le h hb) id))⟩
  rintro ⟨g, cap, cur, e1, e2, e3⟩
  exact ⟨g, cap, cur, e1, Nat.le_trans hb e2, e3⟩
/-- Behind region 1. -/
def BnC (w0 : World) (r : Nat) (n : Nat) (ks : List Ky) (s6 : Value) (wx : World) : Prop :=
  ∃ (bs : Nat) (A2 : Option Addr) (c2 : Nat), s6 = .pointer (some ⟨bs, 0, none⟩) ∧ wx.heap[bs]? = some (.cells #[.int .i64 r, .int .i64 0, .slice A2 n c2] 77 (0, 0)) ∧ w0.heap.size ≤ bs ∧ n ≤ c2 ∧ c2 ≤ 9223372036854775807 ∧ kyRd.C wx A2 ks ∧ Below w0.heap.size w0 wx
/-- The loop of 'beneath'. -/
def BnR (wL : World) (R : Ky → Int) (G : Gram) (W : ByteArray) (xr : Rul) (ks : List Ky) (s7 s21 : Value) (wr : World) : Prop :=
  ∃ c : Nat, s21 = .int .i64 c ∧ c ≤ xr.conj.length ∧ Own kyRd 59 wL.heap.size wr s7 (partsTo R G W xr ks c) ∧ Below wL.heap.size wL wr
theorem parts_len {R : Ky → Int} {G : Gram} {W : ByteArray} {xr : Rul} {ks : List Ky} : ∀ n, (partsTo R G W xr ks n).length ≤ n * 66 := by
  intro n
  induction n with
  | zero => simp [partsTo]
  | succ n ih =>
    unfold partsTo
    rw [List.length_append]
    split
    · split
      · simp; omega
      · rename_i q _ _ _
        have := along_len (R := R) (G := G) (W := W) 66 q
        omega
    · simp; omega

set_option maxRecDepth 100000 in
set_option maxHeartbeats 8000000 in
/-- (*tree.grower).beneath. -/
theorem gBeneath {w : World} {m : MK} {x : Nat} (h : MKAt w m) (hg : GrAt w x m) (F : m.Fits) (hfull : m.full = false) (k : Ky) (hp : 0 < m.R k) (hk : k.kind = 0) :
    Calls Try.prog 16 #[.pointer (some ⟨x, 0, none⟩), kyV k] w (BenPost w (beneathB m.R m.t.G m.t.W k)) := by
  have H := F.ok
  obtain ⟨r, xr, hx, -, hH, hl, e, hben, -⟩ := beneath_ok H hp hk
  have hcl : (conjKeys k r xr).length = xr.conj.length := by simp [conjKeys]
  have hrl := (List.getElem?_eq_some_iff.1 hx).1
  have hRl := F.may.rules
  have hcj := (F.may.conj r xr hx).2
  have hcap := F.cap
  have hcap' := F.cap'
  have HE := Lib.hid e
  have HCL := Lib.hid hcl
  have HBEN := Lib.hid hben
  have HX := Lib.hid hx
  have HHO := Lib.hid hH
  have HF := Lib.hid hfull
  have hb0 : Below w.heap.size w (w.alloc (kyO k)) := below_alloc' (below_refl w) _
  have H0 := Lib.hid h
  have HG := Lib.hid hg
  have x4 := heap_alloc_new w (kyO k)
  obtain ⟨b0, hb⟩ : ∃ b0, b0 = w.heap.size := ⟨_, rfl⟩
  clear h hg hx hH hl e hben hcl hfull hk
  rw [HBEN.out]
  unfold kyV
  go_enter Try.func16, Try.ntmps16
  go_upto_region 1 with fail
  change Code.wp _ _ _ _ (w.alloc (kyO k))
  rw [← hb] at x4 ⊢
  generalize w.alloc (kyO k) = w0 at hb0 x4 ⊢
  have HB0 := Lib.hid hb0
  have X4 := Lib.hid x4
  have kS := Lib.hid (fun (W : World) (hW : Below w0.heap.size w0 W) => (show W.cell? ⟨x, 1, none⟩ = some (.pointer (some ⟨m.p, 0, none⟩)) ∧ W.cell? ⟨b0, 0, none⟩ = some (.int .i64 k.kind) ∧ W.cell? ⟨b0, 1, none⟩ = some (.int .i64 k.name) ∧ W.cell? ⟨b0, 2, none⟩ = some (.int .i64 k.plc.rule) ∧ W.cell? ⟨b0, 3, none⟩ = some (.int .i64 k.plc.conj) ∧ W.cell? ⟨b0, 4, none⟩ = some (.int .i64 k.plc.pos) ∧ W.cell? ⟨b0, 5, none⟩ = some (.int .i64 k.i) ∧ W.cell? ⟨b0, 6, none⟩ = some (.int .i64 k.j) from
    ⟨(HG.out.mono (below_then HB0.out hW)).x1, blk_cell (blk_below X4.out hW) 0, by simpa using blk_cell (blk_below X4.out hW) 1, by simpa using blk_cell (blk_below X4.out hW) 2, by simpa using blk_cell (blk_below X4.out hW) 3, by simpa using blk_cell (blk_below X4.out hW) 4, by simpa using blk_cell (blk_below X4.out hW) 5, by simpa using blk_cell (blk_below X4.out hW) 6⟩))
  clear hb hb0 x4
  go_cut [6] (fun s6 wx => BnC w0 r xr.conj.length (conjKeys k r xr) s6 wx)
  case first =>
    --R1
    refine wp_region_held_drew (S := (fun W => W.cell? ⟨x, 1, none⟩ = some (.pointer (some ⟨m.p, 0, none⟩)) ∧ W.cell? ⟨b0, 0, none⟩ = some (.int .i64 k.kind) ∧ W.cell? ⟨b0, 1, none⟩ = some (.int .i64 k.name) ∧ W.cell? ⟨b0, 2, none⟩ = some (.int .i64 k.plc.rule) ∧ W.cell? ⟨b0, 3, none⟩ = some (.int .i64 k.plc.conj) ∧ W.cell? ⟨b0, 4, none⟩ = some (.int .i64 k.plc.pos) ∧ W.cell? ⟨b0, 5, none⟩ = some (.int .i64 k.i) ∧ W.cell? ⟨b0, 6, none⟩ = some (.int .i64 k.j))) (by kernel_rfl) ?_ (fun hHeld => ?_)
    · (try dsimp only)
      exact kS.out _ (below_drew' (below_refl _))
    obtain ⟨wd, hwd⟩ : ∃ wd, wd = w0.drew := ⟨_, rfl⟩
    have HC := Lib.hid (show Below w0.heap.size w0 wd by rw [hwd]; exact below_drew' (below_refl _))
    rw [← hwd] at hHeld ⊢
    clear hwd
    refine wpAnyH_take (i := 0) (v := ?_) rfl (by kernel_rfl) (by kernel_rfl) (by kernel_rfl) (fun _ _ _ h => h) (Or.inl ⟨by rfl, ?_⟩) (by assumption) ?_
    rotate_left 1
    · (intro w hSw; (try dsimp only at hSw); (go_simp <;> with_reducible rfl))
    try simp only [Act.put, List.setIfInBounds_toArray, List.set_cons_zero, List.set_cons_succ]
    refine wpAnyH_take (i := 1) (v := ?_) rfl (by kernel_rfl) (by kernel_rfl) (by kernel_rfl) (fun _ _ _ h => h) (Or.inl ⟨by rfl, ?_⟩) (by assumption) ?_
    rotate_left 1
    · (intro w hSw; (try dsimp only at hSw); (go_simp <;> with_reducible rfl))
    try simp only [Act.put, List.setIfInBounds_toArray, List.set_cons_zero, List.set_cons_succ]
    refine wpAnyH_take (i := 2) (v := ?_) rfl (by kernel_rfl) (by kernel_rfl) (by kernel_rfl) (fun _ _ _ h => h) (Or.inl ⟨by rfl, ?_⟩) (by assumption) ?_
    rotate_left 1
    · (intro w hSw; (try dsimp only at hSw); (go_simp <;> with_reducible rfl))
    try simp only [Act.put, List.setIfInBounds_toArray, List.set_cons_zero, List.set_cons_succ]
    refine wpAnyH_take (i := 3) (v := ?_) rfl (by kernel_rfl) (by kernel_rfl) (by kernel_rfl) (fun _ _ _ h => h) (Or.inl ⟨by rfl, ?_⟩) (by assumption) ?_
    rotate_left 1
    · (intro w hSw; (try dsimp only at hSw); (go_simp <;> with_reducible rfl))
    try simp only [Act.put, List.setIfInBounds_toArray, List.set_cons_zero, List.set_cons_succ]
    refine wpAnyH_take (i := 4) (v := ?_) rfl (by kernel_rfl) (by kernel_rfl) (by kernel_rfl) (fun _ _ _ h => h) (Or.inl ⟨by rfl, ?_⟩) (by assumption) ?_
    rotate_left 1
    · (intro w hSw; (try dsimp only at hSw); (go_simp <;> with_reducible rfl))
    try simp only [Act.put, List.setIfInBounds_toArray, List.set_cons_zero, List.set_cons_succ]
    refine wpAnyH_ready (rs := [5, 8]) (by kernel_rfl) (by simp) ?_
    refine AllReadyH.cons rfl (fun K hK => ?_) (AllReadyH.cons rfl (fun K hK => ?_) AllReadyH.nil)
    ·
      try clear hHeld
      go_simp
      refine (mStepsT (H0.out.mono (below_then HB0.out HC.out)) F k hp).mono ?_
      rintro e w1 ⟨A1, c1, he, l1, l2, hC1, h9⟩
      rw [HF.out, HE.out] at he l1 hC1
      subst he
      obtain ⟨ad, A2, c2, rfl, K⟩ := stp_at (hC1 w1 (Upd.refl _ _)) (i := 0) rfl
      simp only [Nat.zero_mul, addr_add0] at K
      have k0 : w1.cell? ad = some (.int .i64 r) := K.c0
      have k1 : w1.cell? ⟨ad.block, ad.off + 1, none⟩ = some (.int .i64 0) := K.c1
      have k2 : w1.cell? ⟨ad.block, ad.off + 2, none⟩ = some (.slice A2 xr.conj.length c2) := by have := K.c2; rwa [HCL.out] at this
      have HKD := Lib.hid (kids_far hC1 K)
      have q1 : xr.conj.length ≤ c2 := by have := K.l1; rwa [HCL.out] at this
      have q2 := K.l2
      have HC := Lib.hid (below_then HC.out h9)
      clear h9 hC1 K
      try dsimp only
      refine hK.out _ _ ?_ (fun hHeld => ?_)
      · (try dsimp only)
        exact kS.out _ HC.out
      clear hK K
      try simp only [Act.put, List.setIfInBounds_toArray, List.set_cons_zero, List.set_cons_succ]
      refine wpAnyH_take (i := 6) (v := ?_) rfl (by kernel_rfl) (by kernel_rfl) (by kernel_rfl) (fun _ _ _ h => h) (Or.inl ⟨by rfl, ?_⟩) (by assumption) ?_
      rotate_left 1
      · (intro w hSw; (try dsimp only at hSw); (go_simp <;> with_reducible rfl))
      try simp only [Act.put, List.setIfInBounds_toArray, List.set_cons_zero, List.set_cons_succ]
      refine wpAnyH_ready (rs := [7, 8]) (by kernel_rfl) (by simp) ?_
      refine AllReadyH.cons rfl (fun K hK => ?_) (AllReadyH.cons rfl (fun K hK => ?_) AllReadyH.nil)
      ·
        try clear hHeld
        go_simp
        refine hK.out _ _ ?_ (fun hHeld => ?_)
        · (try dsimp only)
          exact kS.out _ HC.out
        clear hK K
        try simp only [Act.put, List.setIfInBounds_toArray, List.set_cons_zero, List.set_cons_succ]
        refine wpAnyH_ready (rs := [8]) (by kernel_rfl) (by simp) ?_
        refine AllReadyH.cons rfl (fun K hK => ?_) AllReadyH.nil
        try clear hHeld
        go_simp
        obtain ⟨bs, hb9⟩ : ∃ b, b = w1.heap.size := ⟨_, rfl⟩
        have x9 := heap_alloc_new w1 (.cells #[.int .i64 0, .int .i64 0, .slice none 0 0] 77)
        have h9 : Below w1.heap.size w1 (w1.alloc (.cells #[.int .i64 0, .int .i64 0, .slice none 0 0] 77)) := below_alloc' (below_refl _) _
        rw [← hb9] at x9 ⊢
        generalize w1.alloc (.cells #[.int .i64 0, .int .i64 0, .slice none 0 0] 77) = wa at x9 h9 ⊢
        have XS := Lib.hid x9
        have LS := Lib.hid (show w0.heap.size ≤ bs by have := HC.out.size; omega)
        have k0 := below_cell h9 k0
        have k1 := below_cell h9 k1
        have k2 := below_cell h9 k2
        have HW1 := Lib.hid h9
        have L1 := Lib.hid (show w1.heap.size ≤ bs by omega)
        have HC := Lib.hid (below_then HC.out h9)
        clear hb9 x9 h9
        refine hK.out _ _ ?_ (fun hHeld => ?_)
        · (try dsimp only)
          exact kS.out _ HC.out
        clear hK K
        try simp only [Act.put, List.setIfInBounds_toArray, List.set_cons_zero, List.set_cons_succ]
        refine wpAnyH_ready (rs := [9]) (by kernel_rfl) (by simp) ?_
        refine AllReadyH.cons rfl (fun K hK => ?_) AllReadyH.nil
        try clear hHeld
        refine step_store_blk (by rfl) _ _ _ (by rfl) (by rfl) bs #[.int .i64 r, .int .i64 0, .slice A2 xr.conj.length c2] (by rfl) (by rfl) XS.out (by kernel_rfl) (by rfl) (by simp [Value.oneCell']) ?_
        intro ws y9 g9 _
        have XS := Lib.hid y9
        have HKS := Lib.hid (HKD.out _ (Upd.of_below ((HW1.out).grown g9 HW1.out.size (fun b hb => by injection hb with hb; have := L1.out; omega))))
        have HC := Lib.hid (HC.out.grown g9 HC.out.size (fun b hb => by injection hb with hb; have := LS.out; omega))
        clear y9 g9
        refine hK.out _ _ ?_ (fun hHeld => ?_)
        · (try dsimp only)
          exact kS.out _ HC.out
        clear hK K
        try simp only [Act.put, List.setIfInBounds_toArray, List.set_cons_zero, List.set_cons_succ]
        refine wpAnyH_done (by kernel_rfl) ?_ _
        go_wp2_with fail
        go_meet
        exact ⟨bs, A2, c2, rfl, XS.out, LS.out, q1, q2, HKS.out, HC.out⟩
      ·
        try clear hHeld
        go_simp
        obtain ⟨bs, hb9⟩ : ∃ b, b = w1.heap.size := ⟨_, rfl⟩
        have x9 := heap_alloc_new w1 (.cells #[.int .i64 0, .int .i64 0, .slice none 0 0] 77)
        have h9 : Below w1.heap.size w1 (w1.alloc (.cells #[.int .i64 0, .int .i64 0, .slice none 0 0] 77)) := below_alloc' (below_refl _) _
        rw [← hb9] at x9 ⊢
        generalize w1.alloc (.cells #[.int .i64 0, .int .i64 0, .slice none 0 0] 77) = wa at x9 h9 ⊢
        have XS := Lib.hid x9
        have LS := Lib.hid (show w0.heap.size ≤ bs by have := HC.out.size; omega)
        have k0 := below_cell h9 k0
        have k1 := below_cell h9 k1
        have k2 := below_cell h9 k2
        have HW1 := Lib.hid h9
        have L1 := Lib.hid (show w1.heap.size ≤ bs by omega)
        have HC := Lib.hid (below_then HC.out h9)
        clear hb9 x9 h9
        refine hK.out _ _ ?_ (fun hHeld => ?_)
        · (try dsimp only)
          exact kS.out _ HC.out
        clear hK K
        try simp only [Act.put, List.setIfInBounds_toArray, List.set_cons_zero, List.set_cons_succ]
        refine wpAnyH_ready (rs := [7]) (by kernel_rfl) (by simp) ?_
        refine AllReadyH.cons rfl (fun K hK => ?_) AllReadyH.nil
        try clear hHeld
        go_simp
        refine hK.out _ _ ?_ (fun hHeld => ?_)
        · (try dsimp only)
          exact kS.out _ HC.out
        clear hK K
        try simp only [Act.put, List.setIfInBounds_toArray, List.set_cons_zero, List.set_cons_succ]
        refine wpAnyH_ready (rs := [9]) (by kernel_rfl) (by simp) ?_
        refine AllReadyH.cons rfl (fun K hK => ?_) AllReadyH.nil
        try clear hHeld
        refine step_store_blk (by rfl) _ _ _ (by rfl) (by rfl) bs #[.int .i64 r, .int .i64 0, .slice A2 xr.conj.length c2] (by rfl) (by rfl) XS.out (by kernel_rfl) (by rfl) (by simp [Value.oneCell']) ?_
        intro ws y9 g9 _
        have XS := Lib.hid y9
        have HKS := Lib.hid (HKD.out _ (Upd.of_below ((HW1.out).grown g9 HW1.out.size (fun b hb => by injection hb with hb; have := L1.out; omega))))
        have HC := Lib.hid (HC.out.grown g9 HC.out.size (fun b hb => by injection hb with hb; have := LS.out; omega))
        clear y9 g9
        refine hK.out _ _ ?_ (fun hHeld => ?_)
        · (try dsimp only)
          exact kS.out _ HC.out
        clear hK K
        try simp only [Act.put, List.setIfInBounds_toArray, List.set_cons_zero, List.set_cons_succ]
        refine wpAnyH_done (by kernel_rfl) ?_ _
        go_wp2_with fail
        go_meet
        exact ⟨bs, A2, c2, rfl, XS.out, LS.out, q1, q2, HKS.out, HC.out⟩
    ·
      try clear hHeld
      go_simp
      obtain ⟨bs, hb9⟩ : ∃ b, b = wd.heap.size := ⟨_, rfl⟩
      have x9 := heap_alloc_new wd (.cells #[.int .i64 0, .int .i64 0, .slice none 0 0] 77)
      have h9 : Below wd.heap.size wd (wd.alloc (.cells #[.int .i64 0, .int .i64 0, .slice none 0 0] 77)) := below_alloc' (below_refl _) _
      rw [← hb9] at x9 ⊢
      generalize wd.alloc (.cells #[.int .i64 0, .int .i64 0, .slice none 0 0] 77) = wa at x9 h9 ⊢
      have XS := Lib.hid x9
      have LS := Lib.hid (show w0.heap.size ≤ bs by have := HC.out.size; omega)
      have HC := Lib.hid (below_then HC.out h9)
      clear hb9 x9 h9
      refine hK.out _ _ ?_ (fun hHeld => ?_)
      · (try dsimp only)
        exact kS.out _ HC.out
      clear hK K
      try simp only [Act.put, List.setIfInBounds_toArray, List.set_cons_zero, List.set_cons_succ]
      refine wpAnyH_ready (rs := [5]) (by kernel_rfl) (by simp) ?_
      refine AllReadyH.cons rfl (fun K hK => ?_) AllReadyH.nil
      try clear hHeld
      go_simp
      refine (mStepsT (H0.out.mono (below_then HB0.out HC.out)) F k hp).mono ?_
      rintro e w1 ⟨A1, c1, he, l1, l2, hC1, h9⟩
      rw [HF.out, HE.out] at he l1 hC1
      subst he
      obtain ⟨ad, A2, c2, rfl, K⟩ := stp_at (hC1 w1 (Upd.refl _ _)) (i := 0) rfl
      simp only [Nat.zero_mul, addr_add0] at K
      have k0 : w1.cell? ad = some (.int .i64 r) := K.c0
      have k1 : w1.cell? ⟨ad.block, ad.off + 1, none⟩ = some (.int .i64 0) := K.c1
      have k2 : w1.cell? ⟨ad.block, ad.off + 2, none⟩ = some (.slice A2 xr.conj.length c2) := by have := K.c2; rwa [HCL.out] at this
      have HKD := Lib.hid (kids_far hC1 K)
      have q1 : xr.conj.length ≤ c2 := by have := K.l1; rwa [HCL.out] at this
      have q2 := K.l2
      have HLT := Lib.hid (blk_lt XS.out)
      have XS := Lib.hid (blk_below XS.out h9)
      have HC := Lib.hid (below_then HC.out h9)
      clear h9 hC1 K
      try dsimp only
      refine hK.out _ _ ?_ (fun hHeld => ?_)
      · (try dsimp only)
        exact kS.out _ HC.out
      clear hK K
      try simp only [Act.put, List.setIfInBounds_toArray, List.set_cons_zero, List.set_cons_succ]
      refine wpAnyH_take (i := 6) (v := ?_) rfl (by kernel_rfl) (by kernel_rfl) (by kernel_rfl) (fun _ _ _ h => h) (Or.inl ⟨by rfl, ?_⟩) (by assumption) ?_
      rotate_left 1
      · (intro w hSw; (try dsimp only at hSw); (go_simp <;> with_reducible rfl))
      try simp only [Act.put, List.setIfInBounds_toArray, List.set_cons_zero, List.set_cons_succ]
      refine wpAnyH_ready (rs := [7]) (by kernel_rfl) (by simp) ?_
      refine AllReadyH.cons rfl (fun K hK => ?_) AllReadyH.nil
      try clear hHeld
      go_simp
      refine hK.out _ _ ?_ (fun hHeld => ?_)
      · (try dsimp only)
        exact kS.out _ HC.out
      clear hK K
      try simp only [Act.put, List.setIfInBounds_toArray, List.set_cons_zero, List.set_cons_succ]
      refine wpAnyH_ready (rs := [9]) (by kernel_rfl) (by simp) ?_
      refine AllReadyH.cons rfl (fun K hK => ?_) AllReadyH.nil
      try clear hHeld
      refine step_store_blk (by rfl) _ _ _ (by rfl) (by rfl) bs #[.int .i64 r, .int .i64 0, .slice A2 xr.conj.length c2] (by rfl) (by rfl) XS.out (by kernel_rfl) (by rfl) (by simp [Value.oneCell']) ?_
      intro ws y9 g9 _
      have XS := Lib.hid y9
      have HKS := Lib.hid (HKD.out _ ((Upd.of_grown g9).mono (fun b hb => by injection hb with hb; have := HLT.out; omega)))
      have HC := Lib.hid (HC.out.grown g9 HC.out.size (fun b hb => by injection hb with hb; have := LS.out; omega))
      clear y9 g9
      refine hK.out _ _ ?_ (fun hHeld => ?_)
      · (try dsimp only)
        exact kS.out _ HC.out
      clear hK K
      try simp only [Act.put, List.setIfInBounds_toArray, List.set_cons_zero, List.set_cons_succ]
      refine wpAnyH_done (by kernel_rfl) ?_ _
      go_wp2_with fail
      go_meet
      exact ⟨bs, A2, c2, rfl, XS.out, LS.out, q1, q2, HKS.out, HC.out⟩
    --E1
  case rest =>
    obtain ⟨bs, A2, c2, rfl, hs, hbs, q1, q2, hkd, hbx⟩ := hcut
    have XS := Lib.hid hs
    have HKD := Lib.hid hkd
    have HBX := Lib.hid (below_then HB0.out hbx)
    have s2 : wc.cell? ⟨bs, 2, none⟩ = some (.slice A2 xr.conj.length c2) := blk_cell hs 2
    clear hs hkd hbx kS
    go_upto_region 4 with fail
    clear s2
    go_loopw [7, 21] (fun s7 s21 wr => BnR wc m.R m.t.G m.t.W xr (conjKeys k r xr) s7 s21 wr) (fun _ s21 _ => xr.conj.length - (intOf s21).toNat)
    case atStart => exact ⟨0, rfl, Nat.zero_le _, Own.nil _ _ _ _, below_refl _⟩
    case round =>
      obtain ⟨c, rfl, hc, ho, hb⟩ := hrel
      obtain ⟨A7, c7, rfl, l7, l7', -⟩ := id ho.shape
      have HO := Lib.hid ho
      have HB := Lib.hid hb
      have hpl := parts_len (R := m.R) (G := m.t.G) (W := m.t.W) (xr := xr) (ks := conjKeys k r xr) c
      by_cases hlt : c < xr.conj.length
      · have hltz : (c : Int) < (xr.conj.length : Int) := by omega
        obtain ⟨y, hy⟩ : ∃ y, xr.conj[c]? = some y := ⟨_, List.getElem?_eq_getElem hlt⟩
        obtain ⟨ad, rfl, K⟩ := ky_at (HKD.out.mono hb) (conjKeys_at (k := k) (r := r) hlt)
        have kc0 : wr.cell? (ad.add (c * 7)) = some (.int .i64 1) := K.c0
        have kc1 : wr.cell? ⟨(ad.add (c * 7)).block, (ad.add (c * 7)).off + 1, none⟩ = some (.int .i64 0) := K.c1
        have kc2 : wr.cell? ⟨(ad.add (c * 7)).block, (ad.add (c * 7)).off + 2, none⟩ = some (.int .i64 r) := K.c2
        have kc3 : wr.cell? ⟨(ad.add (c * 7)).block, (ad.add (c * 7)).off + 3, none⟩ = some (.int .i64 c) := K.c3
        have kc4 : wr.cell? ⟨(ad.add (c * 7)).block, (ad.add (c * 7)).off + 4, none⟩ = some (.int .i64 0) := K.c4
        have kc5 : wr.cell? ⟨(ad.add (c * 7)).block, (ad.add (c * 7)).off + 5, none⟩ = some (.int .i64 k.i) := K.c5
        have kc6 : wr.cell? ⟨(ad.add (c * 7)).block, (ad.add (c * 7)).off + 6, none⟩ = some (.int .i64 k.j) := K.c6
        obtain ⟨adr, A8, c8, eA, -, r0, r1, q3, q4, hC8⟩ := rul_at (H0.out.mono (below_then HBX.out hb)).gR HX.out
        obtain ⟨ady, A6, c6, rfl, -, y0, y1, -, -, -⟩ := conj_at hC8 hy
        have HY := Lib.hid hy
        have ecw : IntKind.i64.wrap ((c : Int) + 1) = (c : Int) + 1 := IntWalk.i64_in _ (by omega)
        have X0 := Lib.hid (HG.out.mono (below_then HBX.out hb)).x0
        have G2 := Lib.hid (show wr.cell? ⟨m.g, 2, none⟩ = some (.slice (some adr) m.t.G.rules.length m.c) by rw [← eA]; exact (H0.out.mono (below_then HBX.out hb)).g2)
        have S0 := Lib.hid (show wr.cell? ⟨bs, 0, none⟩ = some (.int .i64 r) from blk_cell (blk_below XS.out hb) 0)
        have R1 := Lib.hid r1
        have hpk : y.neg = false → 0 < m.R (ckey r c k) := fun hn => holdsK_at HHO.out hy hn
        have hb1 : (r : Int) < (m.t.G.rules.length : Int) := by omega
        have Y0 := y0
        clear ho hb hy K r0 r1 y1 hC8 eA y0
        go_upto_region 6 with fail
        have Y0 := Lib.hid Y0
        clear kc0 kc1 kc2 kc3 kc4 kc5 kc6
        obtain ⟨b9, hb9⟩ : ∃ b, b = wr.heap.size := ⟨_, rfl⟩
        have x9 := heap_alloc_new wr (.cells #[.int .i64 1, .int .i64 0, .int .i64 r, .int .i64 c, .int .i64 0, .int .i64 k.i, .int .i64 k.j] 59)
        have h9 : Below wr.heap.size wr (wr.alloc (.cells #[.int .i64 1, .int .i64 0, .int .i64 r, .int .i64 c, .int .i64 0, .int .i64 k.i, .int .i64 k.j] 59)) := below_alloc' (below_refl _) _
        rw [← hb9] at x9 ⊢
        generalize wr.alloc (.cells #[.int .i64 1, .int .i64 0, .int .i64 r, .int .i64 c, .int .i64 0, .int .i64 k.i, .int .i64 k.j] 59) = wo at x9 h9 ⊢
        have X9 := Lib.hid x9
        have HW := Lib.hid h9
        have X0 := Lib.hid (below_cell h9 X0.out)
        have G2 := Lib.hid (below_cell h9 G2.out)
        have S0 := Lib.hid (below_cell h9 S0.out)
        have R1 := Lib.hid (below_cell h9 R1.out)
        have Y0 := Lib.hid (below_cell h9 Y0.out)
        clear hb9 x9 h9
        cases hn : y.neg with
        | true =>
          rw [hn] at Y0
          have HV := Lib.hid (show partsTo m.R m.t.G m.t.W xr (conjKeys k r xr) (c + 1) = partsTo m.R m.t.G m.t.W xr (conjKeys k r xr) c by
            show partsTo m.R m.t.G m.t.W xr (conjKeys k r xr) c ++ _ = _
            rw [HY.out, conjKeys_at hlt]
            simp only [hn, if_true, List.append_nil])
          clear hn hpk
          refine wp_region_below (by kernel_rfl) (by kernel_rfl) ?_
          repeat (first
            | (refine qv_skip (by rfl) ?_; simp only [Act.put, List.setIfInBounds_toArray, List.set_cons_zero, List.set_cons_succ])
            | (refine qv_val' (by rfl) ?_; apply Exists.intro; refine ⟨fun w5 hC => ?_, ?_⟩; (have qqr0 := below_cell hC X0.out; have qqr1 := below_cell hC G2.out; have qqr2 := below_cell hC S0.out; have qqr3 := below_cell hC R1.out; have qqr4 := below_cell hC Y0.out; go_simp; rfl); simp only [Act.put, List.setIfInBounds_toArray, List.set_cons_zero, List.set_cons_succ]))
          refine qv_nil ?_
          intro w5 hC
          have HX5 := Lib.hid (below_then HW.out hC)
          clear hC
          go_wp2_with fail
          go_roundw
          case rel => exact ⟨c + 1, by go_num, hlt, by rw [HV.out]; exact HO.out.below HX5.out, below_then HB.out HX5.out⟩
          case measure => simp [intOf]; omega
        | false =>
          rw [hn] at Y0
          have HV := Lib.hid (show partsTo m.R m.t.G m.t.W xr (conjKeys k r xr) (c + 1) = partsTo m.R m.t.G m.t.W xr (conjKeys k r xr) c ++ alongTo m.R m.t.G m.t.W 66 (ckey r c k) by
            show partsTo m.R m.t.G m.t.W xr (conjKeys k r xr) c ++ _ = _
            rw [HY.out, conjKeys_at hlt]
            simp only [hn, Bool.false_eq_true, if_false])
          have hpk := hpk hn
          have hal := along_len (R := m.R) (G := m.t.G) (W := m.t.W) 66 (ckey r c k)
          clear hn
          refine wp_region_below (by kernel_rfl) (by kernel_rfl) ?_
          repeat (first
            | (refine qv_skip (by rfl) ?_; simp only [Act.put, List.setIfInBounds_toArray, List.set_cons_zero, List.set_cons_succ])
            | (refine qv_val' (by rfl) ?_; apply Exists.intro; refine ⟨fun w5 hC => ?_, ?_⟩; (have qqr0 := below_cell hC X0.out; have qqr1 := below_cell hC G2.out; have qqr2 := below_cell hC S0.out; have qqr3 := below_cell hC R1.out; have qqr4 := below_cell hC Y0.out; go_simp; rfl); simp only [Act.put, List.setIfInBounds_toArray, List.set_cons_zero, List.set_cons_succ]))
          refine qv_nil ?_
          intro w5 hC
          have HX5 := Lib.hid (below_then HW.out hC)
          have CA := Lib.hid (show Calls Try.prog 22 #[.pointer (some ⟨x, 0, none⟩), .agg #[.int .i64 1, .int .i64 0, .int .i64 r, .int .i64 c, .int .i64 0, .int .i64 k.i, .int .i64 k.j]] w5 (KeysPost w5 (alongTo m.R m.t.G m.t.W 66 (ckey r c k))) from gAlong (H0.out.mono (below_then HBX.out (below_then HB.out HX5.out))) (HG.out.mono (below_then HBX.out (below_then HB.out HX5.out))) F HF.out (ckey r c k) hpk (by simp [ckey, seqKey]))
          have zk0 : w5.cell? ⟨b9, 0, none⟩ = some (.int .i64 1) := by simpa using blk_cell (blk_below X9.out hC) 0
          have zk1 : w5.cell? ⟨b9, 1, none⟩ = some (.int .i64 0) := by simpa using blk_cell (blk_below X9.out hC) 1
          have zk2 : w5.cell? ⟨b9, 2, none⟩ = some (.int .i64 r) := by simpa using blk_cell (blk_below X9.out hC) 2
          have zk3 : w5.cell? ⟨b9, 3, none⟩ = some (.int .i64 c) := by simpa using blk_cell (blk_below X9.out hC) 3
          have zk4 : w5.cell? ⟨b9, 4, none⟩ = some (.int .i64 0) := by simpa using blk_cell (blk_below X9.out hC) 4
          have zk5 : w5.cell? ⟨b9, 5, none⟩ = some (.int .i64 k.i) := by simpa using blk_cell (blk_below X9.out hC) 5
          have zk6 : w5.cell? ⟨b9, 6, none⟩ = some (.int .i64 k.j) := by simpa using blk_cell (blk_below X9.out hC) 6
          clear hC
          go_wp2_with (first
            | (go_at_call 22; (with_reducible refine CA.out.mono ?_); rintro e w6 ⟨A9, c9, rfl, l9, l9', hC9, hb6⟩; have HC9 := Lib.hid hC9; have HX6 := Lib.hid (below_then HX5.out hb6); clear hC9 hb6 zk0 zk1 zk2 zk3 zk4 zk5 zk6)
            | (at_builtin; refine wpList_append_flat (d := kyRd) rfl (base := wc.heap.size) _ _ 64 59 _ 56 (by rfl) Try.underlying64 infoKy (by rfl) (by show 0 < 7; decide) (v := .slice A7 (partsTo m.R m.t.G m.t.W xr (conjKeys k r xr) c).length c7) (xs := partsTo m.R m.t.G m.t.W xr (conjKeys k r xr) c) (ys := alongTo m.R m.t.G m.t.W 66 (ckey r c k)) (by rfl) (HO.out.below HX6.out) flat_ky (A := A9) (c := c9) (by rfl) HC9.out (by omega) (by decide) (by have := HX6.out.size; have := HB.out.size; omega) ?_; intro v7 w7 o7 g7 t7; have HZ := Lib.hid (show BnR wc m.R m.t.G m.t.W xr (conjKeys k r xr) v7 (.int .i64 ((c : Int) + 1)) w7 from ⟨c + 1, by go_num, hlt, by rw [HV.out]; exact o7, (below_then HB.out HX6.out).grown g7 (below_then HB.out HX6.out).size (fun b hb => (HO.out.base hb).1)⟩); clear o7 g7 t7)
            | fail)
          go_roundw
          case rel => exact HZ.out
          case measure => simp [intOf]; omega
      · have hltz : ¬ (c : Int) < (xr.conj.length : Int) := by omega
        have e : c = xr.conj.length := by omega
        subst e
        have s0 : wr.cell? ⟨bs, 0, none⟩ = some (.int .i64 r) := blk_cell (blk_below XS.out hb) 0
        clear ho hb
        go_wp2_with fail
        refine bodyPost_ret (v := .tuple #[.int .i64 r, .slice A7 (partsTo m.R m.t.G m.t.W xr (conjKeys k r xr) xr.conj.length).length c7]) (by simp [results, Try.results16, go_sem]) rfl ?_
        exact ⟨A7, c7, rfl, own_low HO.out HBX.out.size, below_then HBX.out HB.out⟩
end Go.Proofs.Ytbidpeggdhkahaa
