/-
  I8: (*ways.Maker).splits.
-/
import Derived.Test.YtbidpeggdhkahaaI7
set_option linter.unusedSimpArgs false
set_option linter.unusedVariables false
namespace Go.Proofs.Ytbidpeggdhkahaa
open Go.RowKit

theorem infoStp : (Try.prog.info? 77).map (fun i => (i.zero, i.size, i.bytes)) = some (some (.agg #[.int .i64 0, .int .i64 0, .slice none 0 0]), 3, 40) := by kernel_rfl
theorem infoKy : (Try.prog.info? 59).map (fun i => (i.zero, i.size, i.bytes)) = some (some (.agg #[.int .i64 0, .int .i64 0, .int .i64 0, .int .i64 0, .int .i64 0, .int .i64 0, .int .i64 0]), 7, 56) := by kernel_rfl
theorem ky_C {w : World} {b : Nat} {ks : List Ky} {t : TypeId} (h : w.heap[b]? = some (.cells (ks.flatMap kyCs).toArray t (0, 0))) : kyRd.C w (some ⟨b, 0, none⟩) ks := by
  refine C_blk (ks.map kyCs) h (by rw [List.flatMap_def]) ?_
  clear h
  induction ks with
  | nil => trivial
  | cons k ks ih => exact ⟨⟨rfl, rfl⟩, ih⟩
/-- A step whose kids lie in a block apart. -/
theorem stp_hy {S : Nat → Prop} {W : World} {y : Stp} {bk n : Nat} {t : TypeId} (h : W.heap[bk]? = some (.cells (y.kids.flatMap kyCs).toArray t (0, 0))) (hS : ¬ S bk) (h1 : y.kids.length ≤ n) (h2 : n ≤ 9223372036854775807) :
    ∀ w', Upd S W w' → stpRd.K w' y [.int .i64 y.sp, .int .i64 y.cj, .slice (some ⟨bk, 0, none⟩) y.kids.length n] := fun w' hu =>
  stpRd_mk h1 h2 (ky_C ((hu.block bk (blk_lt h) hS).trans h))
section
variable {R : Ky → Int} {G : Gram} {W : ByteArray}
theorem splitStep_len (k : Ky) (nm : Int) (sign : Bool) (a : Int) : (splitStep R k nm sign a).length ≤ 1 := by
  unfold splitStep
  repeat' split
  all_goals simp
theorem splitsTo_len (k : Ky) (nm : Int) (sign : Bool) : ∀ n, (splitsTo R k nm sign n).length ≤ n := by
  intro n
  induction n with
  | zero => simp [splitsTo]
  | succ n ih =>
    have := splitStep_len (R := R) k nm sign (k.i + n)
    unfold splitsTo
    rw [List.length_append]
    omega
end
/-- The loop of 'splits'. -/
def SpR (wL : World) (R : Ky → Int) (k : Ky) (nm : Int) (sign : Bool) (n : Nat) (s9 s11 : Value) (wr : World) : Prop :=
  ∃ d : Nat, d ≤ n ∧ s11 = .int .i64 (k.i + d) ∧ Own stpRd 77 wL.heap.size wr s9 (splitsTo R k nm sign d) ∧ Below wL.heap.size wL wr
/-- Behind region 7. -/
def SpC (wr : World) (v9 v11 : Value) (a b : Ky) (s9 s11 s12 s13 : Value) (wx : World) : Prop :=
  ∃ ba bb : Nat, s9 = v9 ∧ s11 = v11 ∧ s12 = .pointer (some ⟨ba, 0, none⟩) ∧ s13 = .pointer (some ⟨bb, 0, none⟩) ∧ KyAt wx ⟨ba, 0, none⟩ a ∧ KyAt wx ⟨bb, 0, none⟩ b ∧ Below wr.heap.size wr wx
theorem spR_end {wL wr w8 w9 : World} {R : Ky → Int} {k : Ky} {nm : Int} {sign : Bool} {n d : Nat} {v v1 : Value} {ys : List Stp} (hd : d < n) (hb : Below wL.heap.size wL wr) (hb8 : Below wr.heap.size wr w8) (ho : Own stpRd 77 wL.heap.size wr v (splitsTo R k nm sign d))
    (hy : splitStep R k nm sign (k.i + d) = ys) (o9 : Own stpRd 77 wL.heap.size w9 v1 (splitsTo R k nm sign d ++ ys)) (g9 : w8.grownBy w9 v.ownBlock) : SpR wL R k nm sign n v1 (.int .i64 (k.i + d + 1)) w9 := by
  refine ⟨d + 1, hd, by push_cast; rw [Int.add_assoc], ?_, ?_⟩
  · unfold splitsTo
    rw [hy]
    exact o9
  · exact (below_then hb hb8).grown g9 (below_then hb hb8).size (fun b hb => (ho.base hb).1)
theorem spR_keep {wL wr w8 : World} {R : Ky → Int} {k : Ky} {nm : Int} {sign : Bool} {n d : Nat} {v : Value} (hd : d < n) (hb : Below wL.heap.size wL wr) (hb8 : Below wr.heap.size wr w8) (ho : Own stpRd 77 wL.heap.size wr v (splitsTo R k nm sign d))
    (hy : splitStep R k nm sign (k.i + d) = []) : SpR wL R k nm sign n v (.int .i64 (k.i + d + 1)) w8 := by
  refine ⟨d + 1, hd, by push_cast; rw [Int.add_assoc], ?_, below_then hb hb8⟩
  unfold splitsTo
  rw [hy, List.append_nil]
  exact ho.below hb8

set_option maxRecDepth 100000 in
set_option maxHeartbeats 4000000 in
/-- (*ways.Maker).splits. -/
theorem mSplits {w : World} {m : MK} (h : MKAt w m) (F : m.Fits) (k : Ky) (nm : Int) (sign : Bool) (i0 : 0 ≤ k.i) (ij : k.i ≤ k.j) (j1 : k.j ≤ m.t.W.size) (hq : 0 ≤ k.plc.pos) (hq1 : k.plc.pos ≤ 64) :
    Calls Try.prog 31 #[.pointer (some ⟨m.p, 0, none⟩), kyV k, .int .i64 nm, .bool sign] w (PicksPost w (splitsTo m.R k nm sign (k.j - k.i + 1).toNat)) := by
  have hW := F.H.F.W32
  have hb0 : Below w.heap.size w (w.alloc (kyO k)) := below_alloc' (below_refl w) _
  have H0 := Lib.hid (h.mono hb0)
  have x4 := heap_alloc_new w (kyO k)
  obtain ⟨b0, hb⟩ : ∃ b0, b0 = w.heap.size := ⟨_, rfl⟩
  have e1 : IntKind.i64.wrap (k.plc.pos + 1) = k.plc.pos + 1 := IntWalk.i64_in _ (by omega)
  clear h
  unfold kyV
  go_enter Try.func31, Try.ntmps31
  go_upto_region 1 with fail
  change Code.wp _ _ _ _ (w.alloc (kyO k))
  rw [← hb] at x4 ⊢
  generalize w.alloc (kyO k) = w0 at hb0 H0 x4 ⊢
  have HX4 := Lib.hid x4
  have HB0 := Lib.hid hb0
  have k2 : w0.cell? ⟨b0, 2, none⟩ = some (.int .i64 k.plc.rule) := by simpa using blk_cell x4 2
  have k3 : w0.cell? ⟨b0, 3, none⟩ = some (.int .i64 k.plc.conj) := by simpa using blk_cell x4 3
  have k4 : w0.cell? ⟨b0, 4, none⟩ = some (.int .i64 k.plc.pos) := by simpa using blk_cell x4 4
  have k5 : w0.cell? ⟨b0, 5, none⟩ = some (.int .i64 k.i) := by simpa using blk_cell x4 5
  have lb0 : b0 < w0.heap.size := blk_lt x4
  have n5 : ∀ o, (w0.alloc o).cell? ⟨b0, 5, none⟩ = some (.int .i64 k.i) := fun o => below_cell (below_alloc' (below_refl w0) o) k5
  clear hb hb0 x4
  go_upto_region 5 with fail
  obtain ⟨bp, hbp⟩ : ∃ bp, bp = w0.heap.size := ⟨_, rfl⟩
  have hb6 : Below w0.heap.size w0 (w0.alloc (.cells #[.int .i64 k.plc.rule, .int .i64 k.plc.conj, .int .i64 (k.plc.pos + 1)] 57)) := below_alloc' (below_refl w0) _
  have B6 := heap_alloc_new w0 (.cells #[.int .i64 k.plc.rule, .int .i64 k.plc.conj, .int .i64 (k.plc.pos + 1)] 57)
  rw [← hbp] at B6 ⊢
  generalize w0.alloc (.cells #[.int .i64 k.plc.rule, .int .i64 k.plc.conj, .int .i64 (k.plc.pos + 1)] 57) = wL at hb6 B6 ⊢
  have H6 := Lib.hid (H0.out.mono hb6)
  have kS := Lib.hid (fun (W : World) (hW : Below wL.heap.size wL W) => (show W.cell? ⟨b0, 5, none⟩ = some (.int .i64 k.i) ∧ W.cell? ⟨b0, 6, none⟩ = some (.int .i64 k.j) ∧ W.cell? ⟨bp, 0, none⟩ = some (.int .i64 k.plc.rule) ∧ W.cell? ⟨bp, 1, none⟩ = some (.int .i64 k.plc.conj) ∧ W.cell? ⟨bp, 2, none⟩ = some (.int .i64 (k.plc.pos + 1)) from
    ⟨by simpa using blk_cell (blk_below (blk_below HX4.out hb6) hW) 5, by simpa using blk_cell (blk_below (blk_below HX4.out hb6) hW) 6, blk_cell (blk_below B6 hW) 0, blk_cell (blk_below B6 hW) 1, blk_cell (blk_below B6 hW) 2⟩))
  have HB6 := Lib.hid (below_then HB0.out hb6)
  have HBP := Lib.hid (show bp < wL.heap.size from blk_lt B6)
  obtain ⟨n, hn⟩ : ∃ n, n = (k.j - k.i + 1).toNat := ⟨_, rfl⟩
  have HN := Lib.hid hn
  rw [← hn]
  have hn33 : n ≤ 33 := by omega
  have hnj : k.j + 1 = k.i + n := by omega
  clear hb6 B6 hbp k2 k3 k4 k5 n5 lb0 H0 HX4 hn
  go_loopw [9, 11] (fun s9 s11 wr => SpR wL m.R k nm sign n s9 s11 wr) (fun _ s11 _ => (k.j + 1 - intOf s11).toNat)
  case atStart => exact ⟨0, Nat.zero_le _, by simp, Own.nil _ _ _ _, below_refl _⟩
  case round =>
    obtain ⟨d, hd, rfl, ho, hb⟩ := hrel
    obtain ⟨A9, c9, rfl, l9, l9', -⟩ := id ho.shape
    have HO := Lib.hid ho
    have HB := Lib.hid hb
    have hlen := splitsTo_len (R := m.R) k nm sign d
    obtain ⟨k5, k6, p0, p1, p2⟩ := kS.out _ hb
    by_cases hlt : d < n
    · have hlt' : k.i + d ≤ k.j := by omega
      have d5 : decide (k.i + (d : Int) ≤ k.j) = true := by simpa using hlt'
      clear ho hb
      go_upto_region 7 with fail
      have HWR := Lib.hid (show wL.heap.size ≤ wr.heap.size from HB.out.size)
      go_cut [9, 11, 12, 13] (fun s9 s11 s12 s13 wx => SpC wr (.slice A9 (splitsTo m.R k nm sign d).length c9) (.int .i64 (k.i + d)) (nameKey nm k.i (k.i + d)) (seqKey (onP k.plc) (k.i + d) k.j) s9 s11 s12 s13 wx)
      case first =>
        --R7
        refine wp_region_held_drew (S := (fun W => W.cell? ⟨b0, 5, none⟩ = some (.int .i64 k.i) ∧ W.cell? ⟨b0, 6, none⟩ = some (.int .i64 k.j) ∧ W.cell? ⟨bp, 0, none⟩ = some (.int .i64 k.plc.rule) ∧ W.cell? ⟨bp, 1, none⟩ = some (.int .i64 k.plc.conj) ∧ W.cell? ⟨bp, 2, none⟩ = some (.int .i64 (k.plc.pos + 1)))) (by kernel_rfl) ?_ (fun hHeld => ?_)
        · (try dsimp only)
          exact kS.out _ (below_then HB.out (below_drew' (below_refl _)))
        obtain ⟨wd, hwd⟩ : ∃ wd, wd = wr.drew := ⟨_, rfl⟩
        have HC := Lib.hid (show Below wr.heap.size wr wd by rw [hwd]; exact below_drew' (below_refl _))
        rw [← hwd] at hHeld ⊢
        clear hwd
        refine wpAnyH_take (i := 0) (v := ?_) rfl (by kernel_rfl) (by kernel_rfl) (by kernel_rfl) (fun _ _ _ h => h) (Or.inl ⟨by rfl, ?_⟩) (by assumption) ?_
        rotate_left 1
        · (intro w hSw; (try dsimp only at hSw); (go_simp <;> with_reducible rfl))
        try simp only [Act.put, List.setIfInBounds_toArray, List.set_cons_zero, List.set_cons_succ]
        refine wpAnyH_take (i := 1) (v := ?_) rfl (by kernel_rfl) (by kernel_rfl) (by kernel_rfl) (fun _ _ _ h => h) (Or.inl ⟨by rfl, ?_⟩) (by assumption) ?_
        rotate_left 1
        · (intro w hSw; (try dsimp only at hSw); (go_simp <;> with_reducible rfl))
        try simp only [Act.put, List.setIfInBounds_toArray, List.set_cons_zero, List.set_cons_succ]
        refine wpAnyH_take (i := 2) (v := ?_) rfl (by kernel_rfl) (by kernel_rfl) (by kernel_rfl) (fun _ _ _ h => h) (Or.inl ⟨by rfl, ?_⟩) (by assumption) ?_
        rotate_left 1
        · (intro w hSw; (try dsimp only at hSw); (go_simp <;> with_reducible rfl))
        try simp only [Act.put, List.setIfInBounds_toArray, List.set_cons_zero, List.set_cons_succ]
        refine wpAnyH_take (i := 3) (v := ?_) rfl (by kernel_rfl) (by kernel_rfl) (by kernel_rfl) (fun _ _ _ h => h) (Or.inl ⟨by rfl, ?_⟩) (by assumption) ?_
        rotate_left 1
        · (intro w hSw; (try dsimp only at hSw); (go_simp <;> with_reducible rfl))
        try simp only [Act.put, List.setIfInBounds_toArray, List.set_cons_zero, List.set_cons_succ]
        refine wpAnyH_take (i := 4) (v := ?_) rfl (by kernel_rfl) (by kernel_rfl) (by kernel_rfl) (fun _ _ _ h => h) (Or.inl ⟨by rfl, ?_⟩) (by assumption) ?_
        rotate_left 1
        · (intro w hSw; (try dsimp only at hSw); (go_simp <;> with_reducible rfl))
        try simp only [Act.put, List.setIfInBounds_toArray, List.set_cons_zero, List.set_cons_succ]
        refine wpAnyH_take (i := 5) (v := ?_) rfl (by kernel_rfl) (by kernel_rfl) (by kernel_rfl) (fun _ _ _ h => h) (Or.inl ⟨by rfl, ?_⟩) (by assumption) ?_
        rotate_left 1
        · (intro w hSw; (try dsimp only at hSw); (go_simp <;> with_reducible rfl))
        try simp only [Act.put, List.setIfInBounds_toArray, List.set_cons_zero, List.set_cons_succ]
        refine wpAnyH_take (i := 6) (v := ?_) rfl (by kernel_rfl) (by kernel_rfl) (by kernel_rfl) (fun _ _ _ h => h) (Or.inl ⟨by rfl, ?_⟩) (by assumption) ?_
        rotate_left 1
        · (intro w hSw; (try dsimp only at hSw); (go_simp <;> with_reducible rfl))
        try simp only [Act.put, List.setIfInBounds_toArray, List.set_cons_zero, List.set_cons_succ]
        refine wpAnyH_take (i := 7) (v := ?_) rfl (by kernel_rfl) (by kernel_rfl) (by kernel_rfl) (fun _ _ _ h => h) (Or.inl ⟨by rfl, ?_⟩) (by assumption) ?_
        rotate_left 1
        · (intro w hSw; (try dsimp only at hSw); (go_simp <;> with_reducible rfl))
        try simp only [Act.put, List.setIfInBounds_toArray, List.set_cons_zero, List.set_cons_succ]
        refine wpAnyH_take (i := 8) (v := ?_) rfl (by kernel_rfl) (by kernel_rfl) (by kernel_rfl) (fun _ _ _ h => h) (Or.inl ⟨by rfl, ?_⟩) (by assumption) ?_
        rotate_left 1
        · (intro w hSw; (try dsimp only at hSw); (go_simp <;> with_reducible rfl))
        try simp only [Act.put, List.setIfInBounds_toArray, List.set_cons_zero, List.set_cons_succ]
        refine wpAnyH_ready (rs := [9, 10, 11]) (by kernel_rfl) (by simp) ?_
        refine AllReadyH.cons rfl (fun K hK => ?_) (AllReadyH.cons rfl (fun K hK => ?_) (AllReadyH.cons rfl (fun K hK => ?_) AllReadyH.nil))
        ·
          try clear hHeld
          go_simp
          refine (wRest (onP k.plc) (k.i + d) k.j _).mono ?_
          rintro e w7 ⟨he, h9⟩
          change e = .returned (.agg #[.int .i64 1, .int .i64 0, .int .i64 k.plc.rule, .int .i64 k.plc.conj, .int .i64 (k.plc.pos + 1), .int .i64 (k.i + d), .int .i64 k.j]) at he
          subst he
          have HC := Lib.hid (below_then HC.out h9)
          clear h9
          try dsimp only
          refine hK.out _ _ ?_ (fun hHeld => ?_)
          · (try dsimp only)
            exact kS.out _ (below_then HB.out HC.out)
          clear hK K
          try simp only [Act.put, List.setIfInBounds_toArray, List.set_cons_zero, List.set_cons_succ]
          refine wpAnyH_ready (rs := [10, 11]) (by kernel_rfl) (by simp) ?_
          refine AllReadyH.cons rfl (fun K hK => ?_) (AllReadyH.cons rfl (fun K hK => ?_) AllReadyH.nil)
          ·
            try clear hHeld
            go_simp
            obtain ⟨b12, hb9⟩ : ∃ b, b = w7.heap.size := ⟨_, rfl⟩
            have x9 := heap_alloc_new w7 (.cells #[.int .i64 0, .int .i64 0, .int .i64 0, .int .i64 0, .int .i64 0, .int .i64 0, .int .i64 0] 59)
            have h9 : Below w7.heap.size w7 (w7.alloc (.cells #[.int .i64 0, .int .i64 0, .int .i64 0, .int .i64 0, .int .i64 0, .int .i64 0, .int .i64 0] 59)) := below_alloc' (below_refl _) _
            rw [← hb9] at x9 ⊢
            generalize w7.alloc (.cells #[.int .i64 0, .int .i64 0, .int .i64 0, .int .i64 0, .int .i64 0, .int .i64 0, .int .i64 0] 59) = wa12 at x9 h9 ⊢
            have X12 := Lib.hid x9
            have L12 := Lib.hid (show wr.heap.size ≤ b12 by have := HC.out.size; omega)
            have HC := Lib.hid (below_then HC.out h9)
            clear hb9 x9 h9
            refine hK.out _ _ ?_ (fun hHeld => ?_)
            · (try dsimp only)
              exact kS.out _ (below_then HB.out HC.out)
            clear hK K
            try simp only [Act.put, List.setIfInBounds_toArray, List.set_cons_zero, List.set_cons_succ]
            refine wpAnyH_ready (rs := [11]) (by kernel_rfl) (by simp) ?_
            refine AllReadyH.cons rfl (fun K hK => ?_) AllReadyH.nil
            try clear hHeld
            go_simp
            obtain ⟨b13, hb9⟩ : ∃ b, b = wa12.heap.size := ⟨_, rfl⟩
            have x9 := heap_alloc_new wa12 (.cells #[.int .i64 0, .int .i64 0, .int .i64 0, .int .i64 0, .int .i64 0, .int .i64 0, .int .i64 0] 59)
            have h9 : Below wa12.heap.size wa12 (wa12.alloc (.cells #[.int .i64 0, .int .i64 0, .int .i64 0, .int .i64 0, .int .i64 0, .int .i64 0, .int .i64 0] 59)) := below_alloc' (below_refl _) _
            rw [← hb9] at x9 ⊢
            generalize wa12.alloc (.cells #[.int .i64 0, .int .i64 0, .int .i64 0, .int .i64 0, .int .i64 0, .int .i64 0, .int .i64 0] 59) = wa13 at x9 h9 ⊢
            have X13 := Lib.hid x9
            have L13 := Lib.hid (show wr.heap.size ≤ b13 by have := HC.out.size; omega)
            have NE := Lib.hid (show b12 ≠ b13 by have := blk_lt X12.out; omega)
            have X12 := Lib.hid (blk_below X12.out h9)
            have HC := Lib.hid (below_then HC.out h9)
            clear hb9 x9 h9
            refine hK.out _ _ ?_ (fun hHeld => ?_)
            · (try dsimp only)
              exact kS.out _ (below_then HB.out HC.out)
            clear hK K
            try simp only [Act.put, List.setIfInBounds_toArray, List.set_cons_zero, List.set_cons_succ]
            refine wpAnyH_ready (rs := [12]) (by kernel_rfl) (by simp) ?_
            refine AllReadyH.cons rfl (fun K hK => ?_) AllReadyH.nil
            try clear hHeld
            refine step_store_blk (by rfl) _ _ _ (by rfl) (by rfl) b12 #[.int .i64 0, .int .i64 nm, .int .i64 0, .int .i64 0, .int .i64 0, .int .i64 k.i, .int .i64 (k.i + d)] (by rfl) (by rfl) X12.out (by kernel_rfl) (by rfl) (by simp [Value.oneCell']) ?_
            intro ws y9 g9 _
            have X12 := Lib.hid y9
            have X13 := Lib.hid (blk_grown X13.out g9 (fun e => by injection e with e; exact NE.out (by first | exact e | exact e.symm)))
            have HC := Lib.hid (HC.out.grown g9 HC.out.size (fun b hb => by injection hb with hb; have := L12.out; omega))
            clear y9 g9
            refine hK.out _ _ ?_ (fun hHeld => ?_)
            · (try dsimp only)
              exact kS.out _ (below_then HB.out HC.out)
            clear hK K
            try simp only [Act.put, List.setIfInBounds_toArray, List.set_cons_zero, List.set_cons_succ]
            refine wpAnyH_ready (rs := [13]) (by kernel_rfl) (by simp) ?_
            refine AllReadyH.cons rfl (fun K hK => ?_) AllReadyH.nil
            try clear hHeld
            refine step_store_blk (by rfl) _ _ _ (by rfl) (by rfl) b13 #[.int .i64 1, .int .i64 0, .int .i64 k.plc.rule, .int .i64 k.plc.conj, .int .i64 (k.plc.pos + 1), .int .i64 (k.i + d), .int .i64 k.j] (by rfl) (by rfl) X13.out (by kernel_rfl) (by rfl) (by simp [Value.oneCell']) ?_
            intro ws y9 g9 _
            have X13 := Lib.hid y9
            have X12 := Lib.hid (blk_grown X12.out g9 (fun e => by injection e with e; exact NE.out (by first | exact e | exact e.symm)))
            have HC := Lib.hid (HC.out.grown g9 HC.out.size (fun b hb => by injection hb with hb; have := L13.out; omega))
            clear y9 g9
            refine hK.out _ _ ?_ (fun hHeld => ?_)
            · (try dsimp only)
              exact kS.out _ (below_then HB.out HC.out)
            clear hK K
            try simp only [Act.put, List.setIfInBounds_toArray, List.set_cons_zero, List.set_cons_succ]
            refine wpAnyH_done (by kernel_rfl) ?_ _
            go_wp2_with fail
            go_meet
            exact ⟨b12, b13, rfl, rfl, rfl, rfl, kyAt_blk X12.out, kyAt_blk X13.out, HC.out⟩
          ·
            try clear hHeld
            go_simp
            obtain ⟨b13, hb9⟩ : ∃ b, b = w7.heap.size := ⟨_, rfl⟩
            have x9 := heap_alloc_new w7 (.cells #[.int .i64 0, .int .i64 0, .int .i64 0, .int .i64 0, .int .i64 0, .int .i64 0, .int .i64 0] 59)
            have h9 : Below w7.heap.size w7 (w7.alloc (.cells #[.int .i64 0, .int .i64 0, .int .i64 0, .int .i64 0, .int .i64 0, .int .i64 0, .int .i64 0] 59)) := below_alloc' (below_refl _) _
            rw [← hb9] at x9 ⊢
            generalize w7.alloc (.cells #[.int .i64 0, .int .i64 0, .int .i64 0, .int .i64 0, .int .i64 0, .int .i64 0, .int .i64 0] 59) = wa13 at x9 h9 ⊢
            have X13 := Lib.hid x9
            have L13 := Lib.hid (show wr.heap.size ≤ b13 by have := HC.out.size; omega)
            have HC := Lib.hid (below_then HC.out h9)
            clear hb9 x9 h9
            refine hK.out _ _ ?_ (fun hHeld => ?_)
            · (try dsimp only)
              exact kS.out _ (below_then HB.out HC.out)
            clear hK K
            try simp only [Act.put, List.setIfInBounds_toArray, List.set_cons_zero, List.set_cons_succ]
            refine wpAnyH_ready (rs := [10]) (by kernel_rfl) (by simp) ?_
            refine AllReadyH.cons rfl (fun K hK => ?_) AllReadyH.nil
            try clear hHeld
            go_simp
            obtain ⟨b12, hb9⟩ : ∃ b, b = wa13.heap.size := ⟨_, rfl⟩
            have x9 := heap_alloc_new wa13 (.cells #[.int .i64 0, .int .i64 0, .int .i64 0, .int .i64 0, .int .i64 0, .int .i64 0, .int .i64 0] 59)
            have h9 : Below wa13.heap.size wa13 (wa13.alloc (.cells #[.int .i64 0, .int .i64 0, .int .i64 0, .int .i64 0, .int .i64 0, .int .i64 0, .int .i64 0] 59)) := below_alloc' (below_refl _) _
            rw [← hb9] at x9 ⊢
            generalize wa13.alloc (.cells #[.int .i64 0, .int .i64 0, .int .i64 0, .int .i64 0, .int .i64 0, .int .i64 0, .int .i64 0] 59) = wa12 at x9 h9 ⊢
            have X12 := Lib.hid x9
            have L12 := Lib.hid (show wr.heap.size ≤ b12 by have := HC.out.size; omega)
            have NE := Lib.hid (show b13 ≠ b12 by have := blk_lt X13.out; omega)
            have X13 := Lib.hid (blk_below X13.out h9)
            have HC := Lib.hid (below_then HC.out h9)
            clear hb9 x9 h9
            refine hK.out _ _ ?_ (fun hHeld => ?_)
            · (try dsimp only)
              exact kS.out _ (below_then HB.out HC.out)
            clear hK K
            try simp only [Act.put, List.setIfInBounds_toArray, List.set_cons_zero, List.set_cons_succ]
            refine wpAnyH_ready (rs := [12]) (by kernel_rfl) (by simp) ?_
            refine AllReadyH.cons rfl (fun K hK => ?_) AllReadyH.nil
            try clear hHeld
            refine step_store_blk (by rfl) _ _ _ (by rfl) (by rfl) b12 #[.int .i64 0, .int .i64 nm, .int .i64 0, .int .i64 0, .int .i64 0, .int .i64 k.i, .int .i64 (k.i + d)] (by rfl) (by rfl) X12.out (by kernel_rfl) (by rfl) (by simp [Value.oneCell']) ?_
            intro ws y9 g9 _
            have X12 := Lib.hid y9
            have X13 := Lib.hid (blk_grown X13.out g9 (fun e => by injection e with e; exact NE.out (by first | exact e | exact e.symm)))
            have HC := Lib.hid (HC.out.grown g9 HC.out.size (fun b hb => by injection hb with hb; have := L12.out; omega))
            clear y9 g9
            refine hK.out _ _ ?_ (fun hHeld => ?_)
            · (try dsimp only)
              exact kS.out _ (below_then HB.out HC.out)
            clear hK K
            try simp only [Act.put, List.setIfInBounds_toArray, List.set_cons_zero, List.set_cons_succ]
            refine wpAnyH_ready (rs := [13]) (by kernel_rfl) (by simp) ?_
            refine AllReadyH.cons rfl (fun K hK => ?_) AllReadyH.nil
            try clear hHeld
            refine step_store_blk (by rfl) _ _ _ (by rfl) (by rfl) b13 #[.int .i64 1, .int .i64 0, .int .i64 k.plc.rule, .int .i64 k.plc.conj, .int .i64 (k.plc.pos + 1), .int .i64 (k.i + d), .int .i64 k.j] (by rfl) (by rfl) X13.out (by kernel_rfl) (by rfl) (by simp [Value.oneCell']) ?_
            intro ws y9 g9 _
            have X13 := Lib.hid y9
            have X12 := Lib.hid (blk_grown X12.out g9 (fun e => by injection e with e; exact NE.out (by first | exact e | exact e.symm)))
            have HC := Lib.hid (HC.out.grown g9 HC.out.size (fun b hb => by injection hb with hb; have := L13.out; omega))
            clear y9 g9
            refine hK.out _ _ ?_ (fun hHeld => ?_)
            · (try dsimp only)
              exact kS.out _ (below_then HB.out HC.out)
            clear hK K
            try simp only [Act.put, List.setIfInBounds_toArray, List.set_cons_zero, List.set_cons_succ]
            refine wpAnyH_done (by kernel_rfl) ?_ _
            go_wp2_with fail
            go_meet
            exact ⟨b12, b13, rfl, rfl, rfl, rfl, kyAt_blk X12.out, kyAt_blk X13.out, HC.out⟩
        ·
          try clear hHeld
          go_simp
          obtain ⟨b12, hb9⟩ : ∃ b, b = wd.heap.size := ⟨_, rfl⟩
          have x9 := heap_alloc_new wd (.cells #[.int .i64 0, .int .i64 0, .int .i64 0, .int .i64 0, .int .i64 0, .int .i64 0, .int .i64 0] 59)
          have h9 : Below wd.heap.size wd (wd.alloc (.cells #[.int .i64 0, .int .i64 0, .int .i64 0, .int .i64 0, .int .i64 0, .int .i64 0, .int .i64 0] 59)) := below_alloc' (below_refl _) _
          rw [← hb9] at x9 ⊢
          generalize wd.alloc (.cells #[.int .i64 0, .int .i64 0, .int .i64 0, .int .i64 0, .int .i64 0, .int .i64 0, .int .i64 0] 59) = wa12 at x9 h9 ⊢
          have X12 := Lib.hid x9
          have L12 := Lib.hid (show wr.heap.size ≤ b12 by have := HC.out.size; omega)
          have HC := Lib.hid (below_then HC.out h9)
          clear hb9 x9 h9
          refine hK.out _ _ ?_ (fun hHeld => ?_)
          · (try dsimp only)
            exact kS.out _ (below_then HB.out HC.out)
          clear hK K
          try simp only [Act.put, List.setIfInBounds_toArray, List.set_cons_zero, List.set_cons_succ]
          refine wpAnyH_ready (rs := [9, 11]) (by kernel_rfl) (by simp) ?_
          refine AllReadyH.cons rfl (fun K hK => ?_) (AllReadyH.cons rfl (fun K hK => ?_) AllReadyH.nil)
          ·
            try clear hHeld
            go_simp
            refine (wRest (onP k.plc) (k.i + d) k.j _).mono ?_
            rintro e w7 ⟨he, h9⟩
            change e = .returned (.agg #[.int .i64 1, .int .i64 0, .int .i64 k.plc.rule, .int .i64 k.plc.conj, .int .i64 (k.plc.pos + 1), .int .i64 (k.i + d), .int .i64 k.j]) at he
            subst he
            have X12 := Lib.hid (blk_below X12.out h9)
            have HC := Lib.hid (below_then HC.out h9)
            clear h9
            try dsimp only
            refine hK.out _ _ ?_ (fun hHeld => ?_)
            · (try dsimp only)
              exact kS.out _ (below_then HB.out HC.out)
            clear hK K
            try simp only [Act.put, List.setIfInBounds_toArray, List.set_cons_zero, List.set_cons_succ]
            refine wpAnyH_ready (rs := [11]) (by kernel_rfl) (by simp) ?_
            refine AllReadyH.cons rfl (fun K hK => ?_) AllReadyH.nil
            try clear hHeld
            go_simp
            obtain ⟨b13, hb9⟩ : ∃ b, b = w7.heap.size := ⟨_, rfl⟩
            have x9 := heap_alloc_new w7 (.cells #[.int .i64 0, .int .i64 0, .int .i64 0, .int .i64 0, .int .i64 0, .int .i64 0, .int .i64 0] 59)
            have h9 : Below w7.heap.size w7 (w7.alloc (.cells #[.int .i64 0, .int .i64 0, .int .i64 0, .int .i64 0, .int .i64 0, .int .i64 0, .int .i64 0] 59)) := below_alloc' (below_refl _) _
            rw [← hb9] at x9 ⊢
            generalize w7.alloc (.cells #[.int .i64 0, .int .i64 0, .int .i64 0, .int .i64 0, .int .i64 0, .int .i64 0, .int .i64 0] 59) = wa13 at x9 h9 ⊢
            have X13 := Lib.hid x9
            have L13 := Lib.hid (show wr.heap.size ≤ b13 by have := HC.out.size; omega)
            have NE := Lib.hid (show b12 ≠ b13 by have := blk_lt X12.out; omega)
            have X12 := Lib.hid (blk_below X12.out h9)
            have HC := Lib.hid (below_then HC.out h9)
            clear hb9 x9 h9
            refine hK.out _ _ ?_ (fun hHeld => ?_)
            · (try dsimp only)
              exact kS.out _ (below_then HB.out HC.out)
            clear hK K
            try simp only [Act.put, List.setIfInBounds_toArray, List.set_cons_zero, List.set_cons_succ]
            refine wpAnyH_ready (rs := [12]) (by kernel_rfl) (by simp) ?_
            refine AllReadyH.cons rfl (fun K hK => ?_) AllReadyH.nil
            try clear hHeld
            refine step_store_blk (by rfl) _ _ _ (by rfl) (by rfl) b12 #[.int .i64 0, .int .i64 nm, .int .i64 0, .int .i64 0, .int .i64 0, .int .i64 k.i, .int .i64 (k.i + d)] (by rfl) (by rfl) X12.out (by kernel_rfl) (by rfl) (by simp [Value.oneCell']) ?_
            intro ws y9 g9 _
            have X12 := Lib.hid y9
            have X13 := Lib.hid (blk_grown X13.out g9 (fun e => by injection e with e; exact NE.out (by first | exact e | exact e.symm)))
            have HC := Lib.hid (HC.out.grown g9 HC.out.size (fun b hb => by injection hb with hb; have := L12.out; omega))
            clear y9 g9
            refine hK.out _ _ ?_ (fun hHeld => ?_)
            · (try dsimp only)
              exact kS.out _ (below_then HB.out HC.out)
            clear hK K
            try simp only [Act.put, List.setIfInBounds_toArray, List.set_cons_zero, List.set_cons_succ]
            refine wpAnyH_ready (rs := [13]) (by kernel_rfl) (by simp) ?_
            refine AllReadyH.cons rfl (fun K hK => ?_) AllReadyH.nil
            try clear hHeld
            refine step_store_blk (by rfl) _ _ _ (by rfl) (by rfl) b13 #[.int .i64 1, .int .i64 0, .int .i64 k.plc.rule, .int .i64 k.plc.conj, .int .i64 (k.plc.pos + 1), .int .i64 (k.i + d), .int .i64 k.j] (by rfl) (by rfl) X13.out (by kernel_rfl) (by rfl) (by simp [Value.oneCell']) ?_
            intro ws y9 g9 _
            have X13 := Lib.hid y9
            have X12 := Lib.hid (blk_grown X12.out g9 (fun e => by injection e with e; exact NE.out (by first | exact e | exact e.symm)))
            have HC := Lib.hid (HC.out.grown g9 HC.out.size (fun b hb => by injection hb with hb; have := L13.out; omega))
            clear y9 g9
            refine hK.out _ _ ?_ (fun hHeld => ?_)
            · (try dsimp only)
              exact kS.out _ (below_then HB.out HC.out)
            clear hK K
            try simp only [Act.put, List.setIfInBounds_toArray, List.set_cons_zero, List.set_cons_succ]
            refine wpAnyH_done (by kernel_rfl) ?_ _
            go_wp2_with fail
            go_meet
            exact ⟨b12, b13, rfl, rfl, rfl, rfl, kyAt_blk X12.out, kyAt_blk X13.out, HC.out⟩
          ·
            try clear hHeld
            go_simp
            obtain ⟨b13, hb9⟩ : ∃ b, b = wa12.heap.size := ⟨_, rfl⟩
            have x9 := heap_alloc_new wa12 (.cells #[.int .i64 0, .int .i64 0, .int .i64 0, .int .i64 0, .int .i64 0, .int .i64 0, .int .i64 0] 59)
            have h9 : Below wa12.heap.size wa12 (wa12.alloc (.cells #[.int .i64 0, .int .i64 0, .int .i64 0, .int .i64 0, .int .i64 0, .int .i64 0, .int .i64 0] 59)) := below_alloc' (below_refl _) _
            rw [← hb9] at x9 ⊢
            generalize wa12.alloc (.cells #[.int .i64 0, .int .i64 0, .int .i64 0, .int .i64 0, .int .i64 0, .int .i64 0, .int .i64 0] 59) = wa13 at x9 h9 ⊢
            have X13 := Lib.hid x9
            have L13 := Lib.hid (show wr.heap.size ≤ b13 by have := HC.out.size; omega)
            have NE := Lib.hid (show b12 ≠ b13 by have := blk_lt X12.out; omega)
            have X12 := Lib.hid (blk_below X12.out h9)
            have HC := Lib.hid (below_then HC.out h9)
            clear hb9 x9 h9
            refine hK.out _ _ ?_ (fun hHeld => ?_)
            · (try dsimp only)
              exact kS.out _ (below_then HB.out HC.out)
            clear hK K
            try simp only [Act.put, List.setIfInBounds_toArray, List.set_cons_zero, List.set_cons_succ]
            refine wpAnyH_ready (rs := [9]) (by kernel_rfl) (by simp) ?_
            refine AllReadyH.cons rfl (fun K hK => ?_) AllReadyH.nil
            try clear hHeld
            go_simp
            refine (wRest (onP k.plc) (k.i + d) k.j _).mono ?_
            rintro e w7 ⟨he, h9⟩
            change e = .returned (.agg #[.int .i64 1, .int .i64 0, .int .i64 k.plc.rule, .int .i64 k.plc.conj, .int .i64 (k.plc.pos + 1), .int .i64 (k.i + d), .int .i64 k.j]) at he
            subst he
            have X12 := Lib.hid (blk_below X12.out h9)
            have X13 := Lib.hid (blk_below X13.out h9)
            have HC := Lib.hid (below_then HC.out h9)
            clear h9
            try dsimp only
            refine hK.out _ _ ?_ (fun hHeld => ?_)
            · (try dsimp only)
              exact kS.out _ (below_then HB.out HC.out)
            clear hK K
            try simp only [Act.put, List.setIfInBounds_toArray, List.set_cons_zero, List.set_cons_succ]
            refine wpAnyH_ready (rs := [12]) (by kernel_rfl) (by simp) ?_
            refine AllReadyH.cons rfl (fun K hK => ?_) AllReadyH.nil
            try clear hHeld
            refine step_store_blk (by rfl) _ _ _ (by rfl) (by rfl) b12 #[.int .i64 0, .int .i64 nm, .int .i64 0, .int .i64 0, .int .i64 0, .int .i64 k.i, .int .i64 (k.i + d)] (by rfl) (by rfl) X12.out (by kernel_rfl) (by rfl) (by simp [Value.oneCell']) ?_
            intro ws y9 g9 _
            have X12 := Lib.hid y9
            have X13 := Lib.hid (blk_grown X13.out g9 (fun e => by injection e with e; exact NE.out (by first | exact e | exact e.symm)))
            have HC := Lib.hid (HC.out.grown g9 HC.out.size (fun b hb => by injection hb with hb; have := L12.out; omega))
            clear y9 g9
            refine hK.out _ _ ?_ (fun hHeld => ?_)
            · (try dsimp only)
              exact kS.out _ (below_then HB.out HC.out)
            clear hK K
            try simp only [Act.put, List.setIfInBounds_toArray, List.set_cons_zero, List.set_cons_succ]
            refine wpAnyH_ready (rs := [13]) (by kernel_rfl) (by simp) ?_
            refine AllReadyH.cons rfl (fun K hK => ?_) AllReadyH.nil
            try clear hHeld
            refine step_store_blk (by rfl) _ _ _ (by rfl) (by rfl) b13 #[.int .i64 1, .int .i64 0, .int .i64 k.plc.rule, .int .i64 k.plc.conj, .int .i64 (k.plc.pos + 1), .int .i64 (k.i + d), .int .i64 k.j] (by rfl) (by rfl) X13.out (by kernel_rfl) (by rfl) (by simp [Value.oneCell']) ?_
            intro ws y9 g9 _
            have X13 := Lib.hid y9
            have X12 := Lib.hid (blk_grown X12.out g9 (fun e => by injection e with e; exact NE.out (by first | exact e | exact e.symm)))
            have HC := Lib.hid (HC.out.grown g9 HC.out.size (fun b hb => by injection hb with hb; have := L13.out; omega))
            clear y9 g9
            refine hK.out _ _ ?_ (fun hHeld => ?_)
            · (try dsimp only)
              exact kS.out _ (below_then HB.out HC.out)
            clear hK K
            try simp only [Act.put, List.setIfInBounds_toArray, List.set_cons_zero, List.set_cons_succ]
            refine wpAnyH_done (by kernel_rfl) ?_ _
            go_wp2_with fail
            go_meet
            exact ⟨b12, b13, rfl, rfl, rfl, rfl, kyAt_blk X12.out, kyAt_blk X13.out, HC.out⟩
        ·
          try clear hHeld
          go_simp
          obtain ⟨b13, hb9⟩ : ∃ b, b = wd.heap.size := ⟨_, rfl⟩
          have x9 := heap_alloc_new wd (.cells #[.int .i64 0, .int .i64 0, .int .i64 0, .int .i64 0, .int .i64 0, .int .i64 0, .int .i64 0] 59)
          have h9 : Below wd.heap.size wd (wd.alloc (.cells #[.int .i64 0, .int .i64 0, .int .i64 0, .int .i64 0, .int .i64 0, .int .i64 0, .int .i64 0] 59)) := below_alloc' (below_refl _) _
          rw [← hb9] at x9 ⊢
          generalize wd.alloc (.cells #[.int .i64 0, .int .i64 0, .int .i64 0, .int .i64 0, .int .i64 0, .int .i64 0, .int .i64 0] 59) = wa13 at x9 h9 ⊢
          have X13 := Lib.hid x9
          have L13 := Lib.hid (show wr.heap.size ≤ b13 by have := HC.out.size; omega)
          have HC := Lib.hid (below_then HC.out h9)
          clear hb9 x9 h9
          refine hK.out _ _ ?_ (fun hHeld => ?_)
          · (try dsimp only)
            exact kS.out _ (below_then HB.out HC.out)
          clear hK K
          try simp only [Act.put, List.setIfInBounds_toArray, List.set_cons_zero, List.set_cons_succ]
          refine wpAnyH_ready (rs := [9, 10]) (by kernel_rfl) (by simp) ?_
          refine AllReadyH.cons rfl (fun K hK => ?_) (AllReadyH.cons rfl (fun K hK => ?_) AllReadyH.nil)
          ·
            try clear hHeld
            go_simp
            refine (wRest (onP k.plc) (k.i + d) k.j _).mono ?_
            rintro e w7 ⟨he, h9⟩
            change e = .returned (.agg #[.int .i64 1, .int .i64 0, .int .i64 k.plc.rule, .int .i64 k.plc.conj, .int .i64 (k.plc.pos + 1), .int .i64 (k.i + d), .int .i64 k.j]) at he
            subst he
            have X13 := Lib.hid (blk_below X13.out h9)
            have HC := Lib.hid (below_then HC.out h9)
            clear h9
            try dsimp only
            refine hK.out _ _ ?_ (fun hHeld => ?_)
            · (try dsimp only)
              exact kS.out _ (below_then HB.out HC.out)
            clear hK K
            try simp only [Act.put, List.setIfInBounds_toArray, List.set_cons_zero, List.set_cons_succ]
            refine wpAnyH_ready (rs := [10]) (by kernel_rfl) (by simp) ?_
            refine AllReadyH.cons rfl (fun K hK => ?_) AllReadyH.nil
            try clear hHeld
            go_simp
            obtain ⟨b12, hb9⟩ : ∃ b, b = w7.heap.size := ⟨_, rfl⟩
            have x9 := heap_alloc_new w7 (.cells #[.int .i64 0, .int .i64 0, .int .i64 0, .int .i64 0, .int .i64 0, .int .i64 0, .int .i64 0] 59)
            have h9 : Below w7.heap.size w7 (w7.alloc (.cells #[.int .i64 0, .int .i64 0, .int .i64 0, .int .i64 0, .int .i64 0, .int .i64 0, .int .i64 0] 59)) := below_alloc' (below_refl _) _
            rw [← hb9] at x9 ⊢
            generalize w7.alloc (.cells #[.int .i64 0, .int .i64 0, .int .i64 0, .int .i64 0, .int .i64 0, .int .i64 0, .int .i64 0] 59) = wa12 at x9 h9 ⊢
            have X12 := Lib.hid x9
            have L12 := Lib.hid (show wr.heap.size ≤ b12 by have := HC.out.size; omega)
            have NE := Lib.hid (show b13 ≠ b12 by have := blk_lt X13.out; omega)
            have X13 := Lib.hid (blk_below X13.out h9)
            have HC := Lib.hid (below_then HC.out h9)
            clear hb9 x9 h9
            refine hK.out _ _ ?_ (fun hHeld => ?_)
            · (try dsimp only)
              exact kS.out _ (below_then HB.out HC.out)
            clear hK K
            try simp only [Act.put, List.setIfInBounds_toArray, List.set_cons_zero, List.set_cons_succ]
            refine wpAnyH_ready (rs := [12]) (by kernel_rfl) (by simp) ?_
            refine AllReadyH.cons rfl (fun K hK => ?_) AllReadyH.nil
            try clear hHeld
            refine step_store_blk (by rfl) _ _ _ (by rfl) (by rfl) b12 #[.int .i64 0, .int .i64 nm, .int .i64 0, .int .i64 0, .int .i64 0, .int .i64 k.i, .int .i64 (k.i + d)] (by rfl) (by rfl) X12.out (by kernel_rfl) (by rfl) (by simp [Value.oneCell']) ?_
            intro ws y9 g9 _
            have X12 := Lib.hid y9
            have X13 := Lib.hid (blk_grown X13.out g9 (fun e => by injection e with e; exact NE.out (by first | exact e | exact e.symm)))
            have HC := Lib.hid (HC.out.grown g9 HC.out.size (fun b hb => by injection hb with hb; have := L12.out; omega))
            clear y9 g9
            refine hK.out _ _ ?_ (fun hHeld => ?_)
            · (try dsimp only)
              exact kS.out _ (below_then HB.out HC.out)
            clear hK K
            try simp only [Act.put, List.setIfInBounds_toArray, List.set_cons_zero, List.set_cons_succ]
            refine wpAnyH_ready (rs := [13]) (by kernel_rfl) (by simp) ?_
            refine AllReadyH.cons rfl (fun K hK => ?_) AllReadyH.nil
            try clear hHeld
            refine step_store_blk (by rfl) _ _ _ (by rfl) (by rfl) b13 #[.int .i64 1, .int .i64 0, .int .i64 k.plc.rule, .int .i64 k.plc.conj, .int .i64 (k.plc.pos + 1), .int .i64 (k.i + d), .int .i64 k.j] (by rfl) (by rfl) X13.out (by kernel_rfl) (by rfl) (by simp [Value.oneCell']) ?_
            intro ws y9 g9 _
            have X13 := Lib.hid y9
            have X12 := Lib.hid (blk_grown X12.out g9 (fun e => by injection e with e; exact NE.out (by first | exact e | exact e.symm)))
            have HC := Lib.hid (HC.out.grown g9 HC.out.size (fun b hb => by injection hb with hb; have := L13.out; omega))
            clear y9 g9
            refine hK.out _ _ ?_ (fun hHeld => ?_)
            · (try dsimp only)
              exact kS.out _ (below_then HB.out HC.out)
            clear hK K
            try simp only [Act.put, List.setIfInBounds_toArray, List.set_cons_zero, List.set_cons_succ]
            refine wpAnyH_done (by kernel_rfl) ?_ _
            go_wp2_with fail
            go_meet
            exact ⟨b12, b13, rfl, rfl, rfl, rfl, kyAt_blk X12.out, kyAt_blk X13.out, HC.out⟩
          ·
            try clear hHeld
            go_simp
            obtain ⟨b12, hb9⟩ : ∃ b, b = wa13.heap.size := ⟨_, rfl⟩
            have x9 := heap_alloc_new wa13 (.cells #[.int .i64 0, .int .i64 0, .int .i64 0, .int .i64 0, .int .i64 0, .int .i64 0, .int .i64 0] 59)
            have h9 : Below wa13.heap.size wa13 (wa13.alloc (.cells #[.int .i64 0, .int .i64 0, .int .i64 0, .int .i64 0, .int .i64 0, .int .i64 0, .int .i64 0] 59)) := below_alloc' (below_refl _) _
            rw [← hb9] at x9 ⊢
            generalize wa13.alloc (.cells #[.int .i64 0, .int .i64 0, .int .i64 0, .int .i64 0, .int .i64 0, .int .i64 0, .int .i64 0] 59) = wa12 at x9 h9 ⊢
            have X12 := Lib.hid x9
            have L12 := Lib.hid (show wr.heap.size ≤ b12 by have := HC.out.size; omega)
            have NE := Lib.hid (show b13 ≠ b12 by have := blk_lt X13.out; omega)
            have X13 := Lib.hid (blk_below X13.out h9)
            have HC := Lib.hid (below_then HC.out h9)
            clear hb9 x9 h9
            refine hK.out _ _ ?_ (fun hHeld => ?_)
            · (try dsimp only)
              exact kS.out _ (below_then HB.out HC.out)
            clear hK K
            try simp only [Act.put, List.setIfInBounds_toArray, List.set_cons_zero, List.set_cons_succ]
            refine wpAnyH_ready (rs := [9]) (by kernel_rfl) (by simp) ?_
            refine AllReadyH.cons rfl (fun K hK => ?_) AllReadyH.nil
            try clear hHeld
            go_simp
            refine (wRest (onP k.plc) (k.i + d) k.j _).mono ?_
            rintro e w7 ⟨he, h9⟩
            change e = .returned (.agg #[.int .i64 1, .int .i64 0, .int .i64 k.plc.rule, .int .i64 k.plc.conj, .int .i64 (k.plc.pos + 1), .int .i64 (k.i + d), .int .i64 k.j]) at he
            subst he
            have X13 := Lib.hid (blk_below X13.out h9)
            have X12 := Lib.hid (blk_below X12.out h9)
            have HC := Lib.hid (below_then HC.out h9)
            clear h9
            try dsimp only
            refine hK.out _ _ ?_ (fun hHeld => ?_)
            · (try dsimp only)
              exact kS.out _ (below_then HB.out HC.out)
            clear hK K
            try simp only [Act.put, List.setIfInBounds_toArray, List.set_cons_zero, List.set_cons_succ]
            refine wpAnyH_ready (rs := [12]) (by kernel_rfl) (by simp) ?_
            refine AllReadyH.cons rfl (fun K hK => ?_) AllReadyH.nil
            try clear hHeld
            refine step_store_blk (by rfl) _ _ _ (by rfl) (by rfl) b12 #[.int .i64 0, .int .i64 nm, .int .i64 0, .int .i64 0, .int .i64 0, .int .i64 k.i, .int .i64 (k.i + d)] (by rfl) (by rfl) X12.out (by kernel_rfl) (by rfl) (by simp [Value.oneCell']) ?_
            intro ws y9 g9 _
            have X12 := Lib.hid y9
            have X13 := Lib.hid (blk_grown X13.out g9 (fun e => by injection e with e; exact NE.out (by first | exact e | exact e.symm)))
            have HC := Lib.hid (HC.out.grown g9 HC.out.size (fun b hb => by injection hb with hb; have := L12.out; omega))
            clear y9 g9
            refine hK.out _ _ ?_ (fun hHeld => ?_)
            · (try dsimp only)
              exact kS.out _ (below_then HB.out HC.out)
            clear hK K
            try simp only [Act.put, List.setIfInBounds_toArray, List.set_cons_zero, List.set_cons_succ]
            refine wpAnyH_ready (rs := [13]) (by kernel_rfl) (by simp) ?_
            refine AllReadyH.cons rfl (fun K hK => ?_) AllReadyH.nil
            try clear hHeld
            refine step_store_blk (by rfl) _ _ _ (by rfl) (by rfl) b13 #[.int .i64 1, .int .i64 0, .int .i64 k.plc.rule, .int .i64 k.plc.conj, .int .i64 (k.plc.pos + 1), .int .i64 (k.i + d), .int .i64 k.j] (by rfl) (by rfl) X13.out (by kernel_rfl) (by rfl) (by simp [Value.oneCell']) ?_
            intro ws y9 g9 _
            have X13 := Lib.hid y9
            have X12 := Lib.hid (blk_grown X12.out g9 (fun e => by injection e with e; exact NE.out (by first | exact e | exact e.symm)))
            have HC := Lib.hid (HC.out.grown g9 HC.out.size (fun b hb => by injection hb with hb; have := L13.out; omega))
            clear y9 g9
            refine hK.out _ _ ?_ (fun hHeld => ?_)
            · (try dsimp only)
              exact kS.out _ (below_then HB.out HC.out)
            clear hK K
            try simp only [Act.put, List.setIfInBounds_toArray, List.set_cons_zero, List.set_cons_succ]
            refine wpAnyH_done (by kernel_rfl) ?_ _
            go_wp2_with fail
            go_meet
            exact ⟨b12, b13, rfl, rfl, rfl, rfl, kyAt_blk X12.out, kyAt_blk X13.out, HC.out⟩
        --E7
      case rest =>
        obtain ⟨ba, bb, rfl, rfl, rfl, rfl, ka, kb, hb8⟩ := hcut
        --RB
        have HB8 := Lib.hid hb8
        have HKA := Lib.hid ka
        have HKB := Lib.hid kb
        have CA := Lib.hid (fun (W : World) (hW : Below wc.heap.size wc W) => (show Calls Try.prog 14 #[.pointer (some ⟨m.p, 0, none⟩), .agg #[.int .i64 0, .int .i64 nm, .int .i64 0, .int .i64 0, .int .i64 0, .int .i64 k.i, .int .i64 (k.i + d)]] W fun e w' => e = .returned (.int .i64 (m.R (nameKey nm k.i (k.i + d)))) ∧ Below W.heap.size W w' from mkRank (H6.out.mono (below_then HB.out (below_then HB8.out hW))) F (nameKey nm k.i (k.i + d))))
        have CB := Lib.hid (fun (W : World) (hW : Below wc.heap.size wc W) => (show Calls Try.prog 14 #[.pointer (some ⟨m.p, 0, none⟩), .agg #[.int .i64 1, .int .i64 0, .int .i64 k.plc.rule, .int .i64 k.plc.conj, .int .i64 (k.plc.pos + 1), .int .i64 (k.i + d), .int .i64 k.j]] W fun e w' => e = .returned (.int .i64 (m.R (seqKey (onP k.plc) (k.i + d) k.j))) ∧ Below W.heap.size W w' from mkRank (H6.out.mono (below_then HB.out (below_then HB8.out hW))) F (seqKey (onP k.plc) (k.i + d) k.j)))
        have a0 : wc.cell? ⟨ba, 0, none⟩ = some (.int .i64 0) := by simpa [nameKey, seqKey, onP] using (HKA.out).c0
        have a1 : wc.cell? ⟨ba, 1, none⟩ = some (.int .i64 nm) := by simpa [nameKey, seqKey, onP] using (HKA.out).c1
        have a2 : wc.cell? ⟨ba, 2, none⟩ = some (.int .i64 0) := by simpa [nameKey, seqKey, onP] using (HKA.out).c2
        have a3 : wc.cell? ⟨ba, 3, none⟩ = some (.int .i64 0) := by simpa [nameKey, seqKey, onP] using (HKA.out).c3
        have a4 : wc.cell? ⟨ba, 4, none⟩ = some (.int .i64 0) := by simpa [nameKey, seqKey, onP] using (HKA.out).c4
        have a5 : wc.cell? ⟨ba, 5, none⟩ = some (.int .i64 k.i) := by simpa [nameKey, seqKey, onP] using (HKA.out).c5
        have a6 : wc.cell? ⟨ba, 6, none⟩ = some (.int .i64 (k.i + d)) := by simpa [nameKey, seqKey, onP] using (HKA.out).c6
        have b0 : wc.cell? ⟨bb, 0, none⟩ = some (.int .i64 1) := by simpa [nameKey, seqKey, onP] using (HKB.out).c0
        have b1 : wc.cell? ⟨bb, 1, none⟩ = some (.int .i64 0) := by simpa [nameKey, seqKey, onP] using (HKB.out).c1
        have b2 : wc.cell? ⟨bb, 2, none⟩ = some (.int .i64 k.plc.rule) := by simpa [nameKey, seqKey, onP] using (HKB.out).c2
        have b3 : wc.cell? ⟨bb, 3, none⟩ = some (.int .i64 k.plc.conj) := by simpa [nameKey, seqKey, onP] using (HKB.out).c3
        have b4 : wc.cell? ⟨bb, 4, none⟩ = some (.int .i64 (k.plc.pos + 1)) := by simpa [nameKey, seqKey, onP] using (HKB.out).c4
        have b5 : wc.cell? ⟨bb, 5, none⟩ = some (.int .i64 (k.i + d)) := by simpa [nameKey, seqKey, onP] using (HKB.out).c5
        have b6 : wc.cell? ⟨bb, 6, none⟩ = some (.int .i64 k.j) := by simpa [nameKey, seqKey, onP] using (HKB.out).c6
        have eat : IntKind.i64.wrap (k.i + (d : Int) + 1) = k.i + (d : Int) + 1 := IntWalk.i64_in _ (by omega)
        clear hb8 ka kb k5 k6 p0 p1 p2 d5
        cases sign with
        | true =>
          by_cases h1 : 0 < m.R (nameKey nm k.i (k.i + d))
          · have z1 : decide (0 < m.R (nameKey nm k.i (k.i + d))) = true := by simpa using h1
            by_cases h2 : 0 < m.R (seqKey (onP k.plc) (k.i + d) k.j)
            · have z2 : decide (0 < m.R (seqKey (onP k.plc) (k.i + d) k.j)) = true := by simpa using h2
              have HV := Lib.hid (show splitStep m.R k nm true (k.i + d) = [⟨k.i + d, 0, [(nameKey nm k.i (k.i + d)), (seqKey (onP k.plc) (k.i + d) k.j)]⟩] by unfold splitStep; rw [if_pos rfl, if_pos ⟨h1, h2⟩])
              clear h1 h2
              go_wp2_with (first
                | (go_at_call 14; with_reducible refine (CA.out _ (below_refl _)).mono ?_; rintro e w9 ⟨rfl, hb9⟩; have a0 := below_cell hb9 a0; have a1 := below_cell hb9 a1; have a2 := below_cell hb9 a2; have a3 := below_cell hb9 a3; have a4 := below_cell hb9 a4; have a5 := below_cell hb9 a5; have a6 := below_cell hb9 a6; have b0 := below_cell hb9 b0; have b1 := below_cell hb9 b1; have b2 := below_cell hb9 b2; have b3 := below_cell hb9 b3; have b4 := below_cell hb9 b4; have b5 := below_cell hb9 b5; have b6 := below_cell hb9 b6; have HB9 := Lib.hid hb9; have HX := Lib.hid (below_then HB8.out hb9); clear hb9)
                | (go_at_call 14; with_reducible refine (CB.out _ HB9.out).mono ?_; rintro e w10 ⟨rfl, hb10⟩; have a0 := below_cell hb10 a0; have a1 := below_cell hb10 a1; have a2 := below_cell hb10 a2; have a3 := below_cell hb10 a3; have a4 := below_cell hb10 a4; have a5 := below_cell hb10 a5; have a6 := below_cell hb10 a6; have b0 := below_cell hb10 b0; have b1 := below_cell hb10 b1; have b2 := below_cell hb10 b2; have b3 := below_cell hb10 b3; have b4 := below_cell hb10 b4; have b5 := below_cell hb10 b5; have b6 := below_cell hb10 b6; have HX := Lib.hid (below_then HX.out hb10); clear hb10)
                | (at_builtin; refine wpList_append_one (d := stpRd) rfl (base := wL.heap.size) _ _ 78 77 _ 40 (by rfl) Try.underlying78 infoStp (by rfl) (by show 0 < 3; decide) (v := .slice A9 (splitsTo m.R k nm true d).length c9) (xs := splitsTo m.R k nm true d) (by rfl) ((HO.out.below HX.out).below (below_alloc' (below_alloc' (below_refl _) _) _)) ⟨k.i + d, 0, [(nameKey nm k.i (k.i + d)), (seqKey (onP k.plc) (k.i + d) k.j)]⟩ #[.int .i64 (k.i + d), .int .i64 0, .slice (some ⟨w10.heap.size, 0, none⟩) 2 2] (stp_hy (y := ⟨k.i + d, 0, [(nameKey nm k.i (k.i + d)), (seqKey (onP k.plc) (k.i + d) k.j)]⟩) (bk := w10.heap.size) (n := 2) (t := 59) (by exact heap_alloc2_old w10 (.cells (([(nameKey nm k.i (k.i + d)), (seqKey (onP k.plc) (k.i + d) k.j)] : List Ky).flatMap kyCs).toArray 59 (0, 0)) (.cells #[.int .i64 (k.i + d), .int .i64 0, .slice (some ⟨w10.heap.size, 0, none⟩) 2 2] 77 (0, 0))) (fun h => h.elim (fun h => by have := HX.out.size; have := HWR.out; omega) (fun h => by have := (HO.out.base h).2; have := HX.out.size; omega)) (Nat.le_refl _) (by decide)) (b := w10.heap.size + 1) (c := 1) (by rfl) (by exact heap_alloc2_new w10 (.cells (([(nameKey nm k.i (k.i + d)), (seqKey (onP k.plc) (k.i + d) k.j)] : List Ky).flatMap kyCs).toArray 59 (0, 0)) (.cells #[.int .i64 (k.i + d), .int .i64 0, .slice (some ⟨w10.heap.size, 0, none⟩) 2 2] 77 (0, 0))) (by have := hlen; omega) (by decide) (by have := HX.out.size; have := HWR.out; simp; omega) ?_; intro v5 w5 o5 g5 t5; have HZ := Lib.hid (spR_end hlt HB.out (w8 := (w10.alloc (.cells (([(nameKey nm k.i (k.i + d)), (seqKey (onP k.plc) (k.i + d) k.j)] : List Ky).flatMap kyCs).toArray 59 (0, 0))).alloc (.cells #[.int .i64 (k.i + d), .int .i64 0, .slice (some ⟨w10.heap.size, 0, none⟩) 2 2] 77 (0, 0))) (below_then HX.out (below_alloc' (below_alloc' (below_refl _) _) _)) HO.out HV.out o5 g5); clear o5 g5 t5)
                | fail)
              go_roundw
              case rel => exact HZ.out
              case measure => simp [intOf]; omega
            · have z2 : decide (0 < m.R (seqKey (onP k.plc) (k.i + d) k.j)) = false := by simpa using h2
              have HV := Lib.hid (show splitStep m.R k nm true (k.i + d) = [] by unfold splitStep; rw [if_pos rfl, if_neg (fun h => h2 h.2)])
              clear h1 h2
              go_wp2_with (first
                | (go_at_call 14; with_reducible refine (CA.out _ (below_refl _)).mono ?_; rintro e w9 ⟨rfl, hb9⟩; have a0 := below_cell hb9 a0; have a1 := below_cell hb9 a1; have a2 := below_cell hb9 a2; have a3 := below_cell hb9 a3; have a4 := below_cell hb9 a4; have a5 := below_cell hb9 a5; have a6 := below_cell hb9 a6; have b0 := below_cell hb9 b0; have b1 := below_cell hb9 b1; have b2 := below_cell hb9 b2; have b3 := below_cell hb9 b3; have b4 := below_cell hb9 b4; have b5 := below_cell hb9 b5; have b6 := below_cell hb9 b6; have HB9 := Lib.hid hb9; have HX := Lib.hid (below_then HB8.out hb9); clear hb9)
                | (go_at_call 14; with_reducible refine (CB.out _ HB9.out).mono ?_; rintro e w10 ⟨rfl, hb10⟩; have a0 := below_cell hb10 a0; have a1 := below_cell hb10 a1; have a2 := below_cell hb10 a2; have a3 := below_cell hb10 a3; have a4 := below_cell hb10 a4; have a5 := below_cell hb10 a5; have a6 := below_cell hb10 a6; have b0 := below_cell hb10 b0; have b1 := below_cell hb10 b1; have b2 := below_cell hb10 b2; have b3 := below_cell hb10 b3; have b4 := below_cell hb10 b4; have b5 := below_cell hb10 b5; have b6 := below_cell hb10 b6; have HX := Lib.hid (below_then HX.out hb10); clear hb10)
                | fail)
              go_roundw
              case rel => exact spR_keep hlt HB.out HX.out HO.out HV.out
              case measure => simp [intOf]; omega
          · have z1 : decide (0 < m.R (nameKey nm k.i (k.i + d))) = false := by simpa using h1
            have HV := Lib.hid (show splitStep m.R k nm true (k.i + d) = [] by unfold splitStep; rw [if_pos rfl, if_neg (fun h => h1 h.1)])
            clear h1
            go_wp2_with (first
              | (go_at_call 14; with_reducible refine (CA.out _ (below_refl _)).mono ?_; rintro e w9 ⟨rfl, hb9⟩; have a0 := below_cell hb9 a0; have a1 := below_cell hb9 a1; have a2 := below_cell hb9 a2; have a3 := below_cell hb9 a3; have a4 := below_cell hb9 a4; have a5 := below_cell hb9 a5; have a6 := below_cell hb9 a6; have b0 := below_cell hb9 b0; have b1 := below_cell hb9 b1; have b2 := below_cell hb9 b2; have b3 := below_cell hb9 b3; have b4 := below_cell hb9 b4; have b5 := below_cell hb9 b5; have b6 := below_cell hb9 b6; have HB9 := Lib.hid hb9; have HX := Lib.hid (below_then HB8.out hb9); clear hb9)
              | fail)
            go_roundw
            case rel => exact spR_keep hlt HB.out HX.out HO.out HV.out
            case measure => simp [intOf]; omega
        | false =>
          by_cases h1 : m.R (nameKey nm k.i (k.i + d)) = 0
          · have z1 : (m.R (nameKey nm k.i (k.i + d)) == 0) = true := by simpa using h1
            have HV := Lib.hid (show splitStep m.R k nm false (k.i + d) = [⟨k.i + d, 0, [(nameKey nm k.i (k.i + d))]⟩] by unfold splitStep; rw [if_neg (by decide), if_pos h1])
            clear h1
            go_wp2_with (first
              | (go_at_call 14; with_reducible refine (CA.out _ (below_refl _)).mono ?_; rintro e w9 ⟨rfl, hb9⟩; have a0 := below_cell hb9 a0; have a1 := below_cell hb9 a1; have a2 := below_cell hb9 a2; have a3 := below_cell hb9 a3; have a4 := below_cell hb9 a4; have a5 := below_cell hb9 a5; have a6 := below_cell hb9 a6; have b0 := below_cell hb9 b0; have b1 := below_cell hb9 b1; have b2 := below_cell hb9 b2; have b3 := below_cell hb9 b3; have b4 := below_cell hb9 b4; have b5 := below_cell hb9 b5; have b6 := below_cell hb9 b6; have HB9 := Lib.hid hb9; have HX := Lib.hid (below_then HB8.out hb9); clear hb9)
              | (at_builtin; refine wpList_append_one (d := stpRd) rfl (base := wL.heap.size) _ _ 78 77 _ 40 (by rfl) Try.underlying78 infoStp (by rfl) (by show 0 < 3; decide) (v := .slice A9 (splitsTo m.R k nm false d).length c9) (xs := splitsTo m.R k nm false d) (by rfl) ((HO.out.below HX.out).below (below_alloc' (below_alloc' (below_refl _) _) _)) ⟨k.i + d, 0, [(nameKey nm k.i (k.i + d))]⟩ #[.int .i64 (k.i + d), .int .i64 0, .slice (some ⟨w9.heap.size, 0, none⟩) 1 1] (stp_hy (y := ⟨k.i + d, 0, [(nameKey nm k.i (k.i + d))]⟩) (bk := w9.heap.size) (n := 1) (t := 59) (by exact heap_alloc2_old w9 (.cells (([(nameKey nm k.i (k.i + d))] : List Ky).flatMap kyCs).toArray 59 (0, 0)) (.cells #[.int .i64 (k.i + d), .int .i64 0, .slice (some ⟨w9.heap.size, 0, none⟩) 1 1] 77 (0, 0))) (fun h => h.elim (fun h => by have := HX.out.size; have := HWR.out; omega) (fun h => by have := (HO.out.base h).2; have := HX.out.size; omega)) (Nat.le_refl _) (by decide)) (b := w9.heap.size + 1) (c := 1) (by rfl) (by exact heap_alloc2_new w9 (.cells (([(nameKey nm k.i (k.i + d))] : List Ky).flatMap kyCs).toArray 59 (0, 0)) (.cells #[.int .i64 (k.i + d), .int .i64 0, .slice (some ⟨w9.heap.size, 0, none⟩) 1 1] 77 (0, 0))) (by have := hlen; omega) (by decide) (by have := HX.out.size; have := HWR.out; simp; omega) ?_; intro v5 w5 o5 g5 t5; have HZ := Lib.hid (spR_end hlt HB.out (w8 := (w9.alloc (.cells (([(nameKey nm k.i (k.i + d))] : List Ky).flatMap kyCs).toArray 59 (0, 0))).alloc (.cells #[.int .i64 (k.i + d), .int .i64 0, .slice (some ⟨w9.heap.size, 0, none⟩) 1 1] 77 (0, 0))) (below_then HX.out (below_alloc' (below_alloc' (below_refl _) _) _)) HO.out HV.out o5 g5); clear o5 g5 t5)
              | fail)
            go_roundw
            case rel => exact HZ.out
            case measure => simp [intOf]; omega
          · have z1 : (m.R (nameKey nm k.i (k.i + d)) == 0) = false := by simpa using h1
            have HV := Lib.hid (show splitStep m.R k nm false (k.i + d) = [⟨k.i + d, 0, [(seqKey (onP k.plc) (k.i + d) k.j)]⟩] by unfold splitStep; rw [if_neg (by decide), if_neg h1])
            clear h1
            go_wp2_with (first
              | (go_at_call 14; with_reducible refine (CA.out _ (below_refl _)).mono ?_; rintro e w9 ⟨rfl, hb9⟩; have a0 := below_cell hb9 a0; have a1 := below_cell hb9 a1; have a2 := below_cell hb9 a2; have a3 := below_cell hb9 a3; have a4 := below_cell hb9 a4; have a5 := below_cell hb9 a5; have a6 := below_cell hb9 a6; have b0 := below_cell hb9 b0; have b1 := below_cell hb9 b1; have b2 := below_cell hb9 b2; have b3 := below_cell hb9 b3; have b4 := below_cell hb9 b4; have b5 := below_cell hb9 b5; have b6 := below_cell hb9 b6; have HB9 := Lib.hid hb9; have HX := Lib.hid (below_then HB8.out hb9); clear hb9)
              | (at_builtin; refine wpList_append_one (d := stpRd) rfl (base := wL.heap.size) _ _ 78 77 _ 40 (by rfl) Try.underlying78 infoStp (by rfl) (by show 0 < 3; decide) (v := .slice A9 (splitsTo m.R k nm false d).length c9) (xs := splitsTo m.R k nm false d) (by rfl) ((HO.out.below HX.out).below (below_alloc' (below_alloc' (below_refl _) _) _)) ⟨k.i + d, 0, [(seqKey (onP k.plc) (k.i + d) k.j)]⟩ #[.int .i64 (k.i + d), .int .i64 0, .slice (some ⟨w9.heap.size, 0, none⟩) 1 1] (stp_hy (y := ⟨k.i + d, 0, [(seqKey (onP k.plc) (k.i + d) k.j)]⟩) (bk := w9.heap.size) (n := 1) (t := 59) (by exact heap_alloc2_old w9 (.cells (([(seqKey (onP k.plc) (k.i + d) k.j)] : List Ky).flatMap kyCs).toArray 59 (0, 0)) (.cells #[.int .i64 (k.i + d), .int .i64 0, .slice (some ⟨w9.heap.size, 0, none⟩) 1 1] 77 (0, 0))) (fun h => h.elim (fun h => by have := HX.out.size; have := HWR.out; omega) (fun h => by have := (HO.out.base h).2; have := HX.out.size; omega)) (Nat.le_refl _) (by decide)) (b := w9.heap.size + 1) (c := 1) (by rfl) (by exact heap_alloc2_new w9 (.cells (([(seqKey (onP k.plc) (k.i + d) k.j)] : List Ky).flatMap kyCs).toArray 59 (0, 0)) (.cells #[.int .i64 (k.i + d), .int .i64 0, .slice (some ⟨w9.heap.size, 0, none⟩) 1 1] 77 (0, 0))) (by have := hlen; omega) (by decide) (by have := HX.out.size; have := HWR.out; simp; omega) ?_; intro v5 w5 o5 g5 t5; have HZ := Lib.hid (spR_end hlt HB.out (w8 := (w9.alloc (.cells (([(seqKey (onP k.plc) (k.i + d) k.j)] : List Ky).flatMap kyCs).toArray 59 (0, 0))).alloc (.cells #[.int .i64 (k.i + d), .int .i64 0, .slice (some ⟨w9.heap.size, 0, none⟩) 1 1] 77 (0, 0))) (below_then HX.out (below_alloc' (below_alloc' (below_refl _) _) _)) HO.out HV.out o5 g5); clear o5 g5 t5)
              | fail)
            go_roundw
            case rel => exact HZ.out
            case measure => simp [intOf]; omega
        --EB
    · have e : d = n := by omega
      have d5 : decide (k.i + (d : Int) ≤ k.j) = false := by simp; omega
      subst e
      clear ho hb
      go_wp2_with fail
      go_ret
      rw [← HN.out]
      exact ⟨A9, c9, rfl, l9, l9', own_far HO.out HB6.out.size, below_then HB6.out HB.out⟩
end Go.Proofs.Ytbidpeggdhkahaa
