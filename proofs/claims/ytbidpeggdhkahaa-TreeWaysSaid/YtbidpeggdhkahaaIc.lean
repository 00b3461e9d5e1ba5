/-
  Ic: (*tree.grower).along.
-/
import Derived.Test.YtbidpeggdhkahaaIb
import Derived.Test.YtbidpeggdhkahaaA6
set_option linter.unusedSimpArgs false
set_option linter.unusedVariables false
namespace Go.Proofs.Ytbidpeggdhkahaa
open Go.RowKit

theorem addr_add0 (a : Addr) : a.add 0 = a := by unfold Addr.add; simp
theorem addr_add7 (a : Addr) : a.add (1 * 7) = ⟨a.block, a.off + 7, none⟩ := by unfold Addr.add; simp
/-- How many symbols are left behind a place. -/
def leftK (G : Gram) (k : Ky) : Nat := match cjAt G k.plc.rule k.plc.conj with
  | none => 0
  | some y => y.seq.length - k.plc.pos.toNat
theorem left_next {G : Gram} {k : Ky} {s : Sym} {i j : Int} (h0 : 0 ≤ k.plc.pos) (hs : symOf G k.plc = some s) : leftK G (seqKey (onP k.plc) i j) + 1 = leftK G k := by
  unfold symOf at hs
  unfold leftK seqKey onP
  simp only
  cases hc : cjAt G k.plc.rule k.plc.conj with
  | none => rw [hc] at hs; cases hs
  | some y =>
    rw [hc] at hs
    have := (List.getElem?_eq_some_iff.1 hs).1
    simp only
    omega
theorem left_le {G : Gram} (M : MayG G) (k : Ky) : leftK G k ≤ 64 := by
  unfold leftK cjAt
  split
  · omega
  · rename_i y hy
    split at hy
    · cases hy
    · cases hx : G.rules[k.plc.rule.toNat]? with
      | none => rw [hx] at hy; cases hy
      | some x =>
        rw [hx] at hy
        have := M.seq _ x _ y hx hy
        omega
theorem along_len {R : Ky → Int} {G : Gram} {W : ByteArray} : ∀ (n : Nat) (k : Ky), (alongTo R G W n k).length ≤ n := by
  intro n
  induction n with
  | zero => intro k; simp [alongTo]
  | succ n ih =>
    intro k
    unfold alongTo
    split
    · simp
    · split
      · rename_i a b _
        have := ih b
        simp only [List.length_cons]
        omega
      · rename_i b _
        have := ih b
        omega
      · simp
/-- A maker of trees: its grammar, its maker. -/
structure GrAt (w : World) (x : Nat) (m : MK) : Prop where
  x0 : w.cell? ⟨x, 0, none⟩ = some (.pointer (some ⟨m.g, 0, none⟩))
  x1 : w.cell? ⟨x, 1, none⟩ = some (.pointer (some ⟨m.p, 0, none⟩))
theorem GrAt.mono {w w' : World} {x : Nat} {m : MK} (h : GrAt w x m) (hb : Below w.heap.size w w') : GrAt w' x m := ⟨below_cell hb h.x0, below_cell hb h.x1⟩
/-- Keys handed back. -/
def KeysPost (w : World) (ks : List Ky) (e : Ending) (w' : World) : Prop :=
  ∃ A c, e = .returned (.slice A ks.length c) ∧ ks.length ≤ c ∧ c ≤ 9223372036854775807 ∧ kyRd.C w' A ks ∧ Below w.heap.size w w'
/-- A key stored into a block, cell by cell. -/
def setKy (W : World) (b : Nat) (q : Ky) : World := ((((((W.setCell ⟨b, 0, none⟩ (.int .i64 q.kind)).setCell ⟨b, 1, none⟩ (.int .i64 q.name)).setCell ⟨b, 2, none⟩ (.int .i64 q.plc.rule)).setCell ⟨b, 3, none⟩ (.int .i64 q.plc.conj)).setCell ⟨b, 4, none⟩ (.int .i64 q.plc.pos)).setCell ⟨b, 5, none⟩ (.int .i64 q.i)).setCell ⟨b, 6, none⟩ (.int .i64 q.j)
theorem setKy_heap {W : World} {b : Nat} {k q : Ky} (h : W.heap[b]? = some (kyO k)) : (setKy W b q).heap[b]? = some (kyO q) := by
  unfold kyO at h ⊢
  unfold setKy
  have h0 := blk_set h 0 (.int .i64 q.kind)
  simp only [List.setIfInBounds_toArray, List.set_cons_zero, List.set_cons_succ] at h0
  have h1 := blk_set h0 1 (.int .i64 q.name)
  simp only [List.setIfInBounds_toArray, List.set_cons_zero, List.set_cons_succ] at h1
  have h2 := blk_set h1 2 (.int .i64 q.plc.rule)
  simp only [List.setIfInBounds_toArray, List.set_cons_zero, List.set_cons_succ] at h2
  have h3 := blk_set h2 3 (.int .i64 q.plc.conj)
  simp only [List.setIfInBounds_toArray, List.set_cons_zero, List.set_cons_succ] at h3
  have h4 := blk_set h3 4 (.int .i64 q.plc.pos)
  simp only [List.setIfInBounds_toArray, List.set_cons_zero, List.set_cons_succ] at h4
  have h5 := blk_set h4 5 (.int .i64 q.i)
  simp only [List.setIfInBounds_toArray, List.set_cons_zero, List.set_cons_succ] at h5
  have h6 := blk_set h5 6 (.int .i64 q.j)
  simp only [List.setIfInBounds_toArray, List.set_cons_zero, List.set_cons_succ] at h6
  exact h6
theorem setKy_upd (W : World) (b : Nat) (q : Ky) : Upd (fun k => k = b) W (setKy W b q) :=
  ((((((((Upd.refl (fun k => k = b) W).setCell (p := ⟨b, 0, none⟩) rfl _).setCell (p := ⟨b, 1, none⟩) rfl _).setCell (p := ⟨b, 2, none⟩) rfl _).setCell (p := ⟨b, 3, none⟩) rfl _).setCell (p := ⟨b, 4, none⟩) rfl _).setCell (p := ⟨b, 5, none⟩) rfl _).setCell (p := ⟨b, 6, none⟩) rfl _)
theorem kids_far {S : Nat → Prop} {wr : World} {ad : Addr} {s : Stp} {l : List Stp} {A1 : Option Addr} {c1 : Nat} (hC : ∀ w'', Upd S wr w'' → stpRd.C w'' (some ad) (s :: l)) (K : StpAt wr ad s A1 c1) : ∀ w'', Upd S wr w'' → kyRd.C w'' A1 s.kids := fun w'' hu => by
  have hat : ∀ w2, Upd S wr w2 → ∃ A2 c2, StpAt w2 ad s A2 c2 := fun w2 h2 => by
    obtain ⟨ad', A2, c2, e, K2⟩ := stp_at (hC w2 h2) (i := 0) rfl
    injection e with e
    subst e
    simp only [Nat.zero_mul, addr_add0] at K2
    exact ⟨A2, c2, K2⟩
  obtain ⟨A2, c2, K2⟩ := hat w'' hu
  have hn : ¬ S ad.block := not_S (S := S) (w := wr) (a := ⟨ad.block, ad.off + 2, none⟩) fun w2 h2 => by
    obtain ⟨A3, c3, K3⟩ := hat w2 h2
    exact ⟨_, K3.c2⟩
  have q := hu.cell K.c2 (by simp only; exact hn)
  rw [K2.c2] at q
  injection q with q
  injection q with q _ _
  rw [← q]
  exact K2.kd
/-- The loop of 'along'. -/
def AlR (w : World) (m : MK) (b0 : Nat) (total : List Ky) (gg : Nat) (s5 s6 : Value) (wr : World) : Prop :=
  ∃ (kc : Ky) (n : Nat) (os : List Ky) (A : Option Addr) (c : Nat), s6 = .slice A (picksB m.R m.t.G m.t.W false kc).length c ∧ (picksB m.R m.t.G m.t.W false kc).length ≤ c ∧ c ≤ 9223372036854775807 ∧ (∀ w'', Upd (fun b => s5.ownBlock = some b) wr w'' → stpRd.C w'' A (picksB m.R m.t.G m.t.W false kc)) ∧
    wr.heap[b0]? = some (kyO kc) ∧ Own kyRd 59 (b0 + 1) wr s5 os ∧ os ++ alongTo m.R m.t.G m.t.W n kc = total ∧ 0 < m.R kc ∧ kc.kind ≠ 0 ∧ leftK m.t.G kc < n ∧ leftK m.t.G kc ≤ gg ∧ Below w.heap.size w wr

set_option maxRecDepth 100000 in
set_option maxHeartbeats 8000000 in
/-- (*tree.grower).along. -/
theorem gAlong {w : World} {m : MK} {x : Nat} (h : MKAt w m) (hg : GrAt w x m) (F : m.Fits) (hfull : m.full = false) (k : Ky) (hp : 0 < m.R k) (hk : k.kind ≠ 0) :
    Calls Try.prog 22 #[.pointer (some ⟨x, 0, none⟩), kyV k] w (KeysPost w (alongTo m.R m.t.G m.t.W 66 k)) := by
  have H := F.ok
  obtain ⟨total, htot⟩ : ∃ t, t = alongTo m.R m.t.G m.t.W 66 k := ⟨_, rfl⟩
  have hb0 : Below w.heap.size w (w.alloc (kyO k)) := below_alloc' (below_refl w) _
  have H0 := Lib.hid h
  have HG := Lib.hid hg
  have x4 := heap_alloc_new w (kyO k)
  obtain ⟨b0, hb⟩ : ∃ b0, b0 = w.heap.size := ⟨_, rfl⟩
  have htl : total.length ≤ 66 := by rw [htot]; exact along_len _ _
  have HT := Lib.hid htot
  have HLK := Lib.hid (left_le F.may k)
  clear h hg
  rw [← htot]
  unfold kyV
  go_enter Try.func22, Try.ntmps22
  go_upto_region 2 with fail
  change Code.wp _ _ _ _ (w.alloc (kyO k))
  rw [← hb] at x4 ⊢
  generalize w.alloc (kyO k) = w0 at hb0 x4 ⊢
  have HB0 := Lib.hid hb0
  have HBB := Lib.hid hb
  have X4 := Lib.hid x4
  have kS := Lib.hid (fun (W : World) (hW : Below w0.heap.size w0 W) => (show W.cell? ⟨x, 1, none⟩ = some (.pointer (some ⟨m.p, 0, none⟩)) ∧ W.cell? ⟨b0, 0, none⟩ = some (.int .i64 k.kind) ∧ W.cell? ⟨b0, 1, none⟩ = some (.int .i64 k.name) ∧ W.cell? ⟨b0, 2, none⟩ = some (.int .i64 k.plc.rule) ∧ W.cell? ⟨b0, 3, none⟩ = some (.int .i64 k.plc.conj) ∧ W.cell? ⟨b0, 4, none⟩ = some (.int .i64 k.plc.pos) ∧ W.cell? ⟨b0, 5, none⟩ = some (.int .i64 k.i) ∧ W.cell? ⟨b0, 6, none⟩ = some (.int .i64 k.j) from
    ⟨(HG.out.mono (below_then HB0.out hW)).x1, blk_cell (blk_below X4.out hW) 0, by simpa using blk_cell (blk_below X4.out hW) 1, by simpa using blk_cell (blk_below X4.out hW) 2, by simpa using blk_cell (blk_below X4.out hW) 3, by simpa using blk_cell (blk_below X4.out hW) 4, by simpa using blk_cell (blk_below X4.out hW) 5, by simpa using blk_cell (blk_below X4.out hW) 6⟩))
  clear hb hb0 x4 htot
  go_region_held3 (fun W => W.cell? ⟨x, 1, none⟩ = some (.pointer (some ⟨m.p, 0, none⟩)) ∧ W.cell? ⟨b0, 0, none⟩ = some (.int .i64 k.kind) ∧ W.cell? ⟨b0, 1, none⟩ = some (.int .i64 k.name) ∧ W.cell? ⟨b0, 2, none⟩ = some (.int .i64 k.plc.rule) ∧ W.cell? ⟨b0, 3, none⟩ = some (.int .i64 k.plc.conj) ∧ W.cell? ⟨b0, 4, none⟩ = some (.int .i64 k.plc.pos) ∧ W.cell? ⟨b0, 5, none⟩ = some (.int .i64 k.i) ∧ W.cell? ⟨b0, 6, none⟩ = some (.int .i64 k.j))
    (exact kS.out _ (by first | exact HB1.out | exact below_drew' (below_refl _)))
    (first
      | (go_at_call 21; refine (mStepsT (H0.out.mono (below_then HB0.out (below_drew' (below_refl _)))) F k hp).mono ?_; rintro e w1 ⟨A1, c1, rfl, l1, l2, hC1, hb1⟩; have HB1 := Lib.hid (show Below w0.heap.size w0 w1 from below_then (below_drew' (below_refl _)) hb1); have HC1 := Lib.hid (fun w'' (hu : Upd (fun b => (Value.slice none 0 0).ownBlock = some b) w1 w'') => hC1 w'' (hu.mono (fun b hb => by simp [Value.ownBlock] at hb))); clear hb1 hC1)
      | fail)
  go_upto_region 3 with fail
  rw [hfull] at HC1 l1
  try rw [hfull]
  have HF := Lib.hid hfull
  clear hfull
  go_loopg [5, 6] (leftK m.t.G k) (fun gg s5 s6 wr => AlR w m b0 total gg s5 s6 wr)
  case atStart => exact ⟨k, 66, [], A1, c1, rfl, l1, l2, HC1.out, blk_below X4.out HB1.out, Own.nil _ _ _ _, HT.out.symm, hp, hk, by have := HLK.out; omega, Nat.le_refl _, below_then HB0.out HB1.out⟩
  case round =>
    clear kS HC1 l1 l2 HB1 HLK hp hk X4 HT
    obtain ⟨kc, n, os, A, c, rfl, l1, l2, hC, hkb, ho, ht, hp, hk, hn, hgg, hb⟩ := hrel
    have hpos := (place_at (H.pl kc hp hk))
    --RA
    obtain ⟨_, _, _, _, hq0, _, _, _⟩ := id hpos
    rcases seq_pick H hp hk with ⟨hs, -, e⟩ | ⟨s, hs, hsn, h1, -, -, f2, f4, e⟩ | ⟨s, at', hs, hsn, h1, h2, f1, f2, f3, f4, e⟩
    · rw [e] at l1
      rw [e]
      obtain ⟨n, rfl⟩ : ∃ n', n = n' + 1 := ⟨n - 1, by omega⟩
      have hto : os = total := by
        rw [← ht]
        simp only [alongTo, e, List.append_nil]
      obtain ⟨A5, c5, rfl, l5, l5', hC5⟩ := ho.shape
      have HC5 := Lib.hid hC5
      have HB := Lib.hid hb
      rw [hto] at HC5 l5 ⊢
      clear hC hkb ho ht hp hk hb hto hs e hC5
      go_wp2_with fail
      go_ret
      exact ⟨A5, c5, rfl, l5, l5', HC5.out, HB.out⟩
    · rw [e] at hC l1
      rw [e]
      have hleft := left_next (i := kc.i + 1) (j := kc.j) hq0 hs
      obtain ⟨n, rfl⟩ : ∃ n', n = n' + 1 := ⟨n - 1, by omega⟩
      have htn : os ++ alongTo m.R m.t.G m.t.W n (seqKey (onP kc.plc) (kc.i + 1) kc.j) = total := by
        rw [← ht]
        simp only [alongTo, e, List.append_assoc, List.cons_append, List.nil_append]
      have hqn : (seqKey (onP kc.plc) (kc.i + 1) kc.j).kind ≠ 0 := by simp [seqKey]
      generalize (seqKey (onP kc.plc) (kc.i + 1) kc.j) = q at hC l1 htn hqn hleft f2 e ⊢
      obtain ⟨ad, A2, c2, rfl, K⟩ := stp_at (hC wr (Upd.refl _ _)) (i := 0) rfl
      simp only [Nat.zero_mul, addr_add0] at K
      have k2 : wr.cell? ⟨ad.block, ad.off + 2, none⟩ = some (.slice A2 1 c2) := K.c2
      have kl1 : 1 ≤ c2 := K.l1
      have kl2 := K.l2
      obtain ⟨ad2, rfl, KQ⟩ := ky_at K.kd (i := 0) rfl
      simp only [Nat.zero_mul, addr_add0] at KQ
      have q0 := KQ.c0
      have q1 := KQ.c1
      have q2 := KQ.c2
      have q3 := KQ.c3
      have q4 := KQ.c4
      have q5 := KQ.c5
      have q6 := KQ.c6
      obtain ⟨A5, c5, rfl, l5, l5', -⟩ := id ho.shape
      have HO := Lib.hid ho
      have HB := Lib.hid hb
      have XB := Lib.hid hkb
      have HN := Lib.hid htn
      have HLF := Lib.hid hleft
      have hol : os.length ≤ 66 := by rw [← ht] at htl; simp only [List.length_append] at htl; omega
      have hqk := f2
      have z0 : wr.cell? ⟨b0, 0, none⟩ = some (.int .i64 kc.kind) := (by simpa using blk_cell hkb 0)
      have z1 : wr.cell? ⟨b0, 1, none⟩ = some (.int .i64 kc.name) := (by simpa using blk_cell hkb 1)
      have z2 : wr.cell? ⟨b0, 2, none⟩ = some (.int .i64 kc.plc.rule) := (by simpa using blk_cell hkb 2)
      have z3 : wr.cell? ⟨b0, 3, none⟩ = some (.int .i64 kc.plc.conj) := (by simpa using blk_cell hkb 3)
      have z4 : wr.cell? ⟨b0, 4, none⟩ = some (.int .i64 kc.plc.pos) := (by simpa using blk_cell hkb 4)
      have z5 : wr.cell? ⟨b0, 5, none⟩ = some (.int .i64 kc.i) := (by simpa using blk_cell hkb 5)
      have z6 : wr.cell? ⟨b0, 6, none⟩ = some (.int .i64 kc.j) := (by simpa using blk_cell hkb 6)
      have fz0 : wr.frozen? ⟨b0, 0, none⟩ = false := blk_frozen hkb 0
      have fz1 : wr.frozen? ⟨b0, 1, none⟩ = false := blk_frozen hkb 1
      have fz2 : wr.frozen? ⟨b0, 2, none⟩ = false := blk_frozen hkb 2
      have fz3 : wr.frozen? ⟨b0, 3, none⟩ = false := blk_frozen hkb 3
      have fz4 : wr.frozen? ⟨b0, 4, none⟩ = false := blk_frozen hkb 4
      have fz5 : wr.frozen? ⟨b0, 5, none⟩ = false := blk_frozen hkb 5
      have fz6 : wr.frozen? ⟨b0, 6, none⟩ = false := blk_frozen hkb 6
      have x1 := (HG.out.mono hb).x1
      clear hC ho hb hkb htn hleft ht e hs K hp hk h1 f2 f4 hpos hq0 KQ hsn
      go_upto_region 4 with fail
      have hbq : Below w.heap.size w (setKy wr b0 q) := HB.out.trans ((setKy_upd wr b0 q).below HB.out.size (fun b hb => by have := HBB.out; omega))
      have xq : (setKy wr b0 q).heap[b0]? = some (kyO q) := setKy_heap XB.out
      have oq := HO.out.upd (setKy_upd wr b0 q) (fun b (hb : b = b0) => by omega)
      change Code.wp _ _ _ _ (setKy wr b0 q)
      generalize setKy wr b0 q = wq at hbq xq oq ⊢
      have HBQ := Lib.hid hbq
      have XQ := Lib.hid xq
      have OQ := Lib.hid oq
      have kS := Lib.hid (fun (W : World) (hW : Below wq.heap.size wq W) => (show W.cell? ⟨x, 1, none⟩ = some (.pointer (some ⟨m.p, 0, none⟩)) ∧ W.cell? ⟨b0, 0, none⟩ = some (.int .i64 q.kind) ∧ W.cell? ⟨b0, 1, none⟩ = some (.int .i64 q.name) ∧ W.cell? ⟨b0, 2, none⟩ = some (.int .i64 q.plc.rule) ∧ W.cell? ⟨b0, 3, none⟩ = some (.int .i64 q.plc.conj) ∧ W.cell? ⟨b0, 4, none⟩ = some (.int .i64 q.plc.pos) ∧ W.cell? ⟨b0, 5, none⟩ = some (.int .i64 q.i) ∧ W.cell? ⟨b0, 6, none⟩ = some (.int .i64 q.j) from ⟨(HG.out.mono (below_then HBQ.out hW)).x1, blk_cell (blk_below XQ.out hW) 0, by simpa using blk_cell (blk_below XQ.out hW) 1, by simpa using blk_cell (blk_below XQ.out hW) 2, by simpa using blk_cell (blk_below XQ.out hW) 3, by simpa using blk_cell (blk_below XQ.out hW) 4, by simpa using blk_cell (blk_below XQ.out hW) 5, by simpa using blk_cell (blk_below XQ.out hW) 6⟩))
      clear hbq xq oq z0 fz0 q0 z1 fz1 q1 z2 fz2 q2 z3 fz3 q3 z4 fz4 q4 z5 fz5 q5 z6 fz6 q6 x1
      go_region_held3 (fun W => W.cell? ⟨x, 1, none⟩ = some (.pointer (some ⟨m.p, 0, none⟩)) ∧ W.cell? ⟨b0, 0, none⟩ = some (.int .i64 q.kind) ∧ W.cell? ⟨b0, 1, none⟩ = some (.int .i64 q.name) ∧ W.cell? ⟨b0, 2, none⟩ = some (.int .i64 q.plc.rule) ∧ W.cell? ⟨b0, 3, none⟩ = some (.int .i64 q.plc.conj) ∧ W.cell? ⟨b0, 4, none⟩ = some (.int .i64 q.plc.pos) ∧ W.cell? ⟨b0, 5, none⟩ = some (.int .i64 q.i) ∧ W.cell? ⟨b0, 6, none⟩ = some (.int .i64 q.j))
        (exact kS.out _ (by first | exact HB9.out | exact below_drew' (below_refl _)))
        (first
          | (go_at_call 21; refine (mStepsT (H0.out.mono (below_then HBQ.out (below_drew' (below_refl _)))) F q hqk).mono ?_; rintro e w9 ⟨A9, c9, rfl, l9, l9', hC9, hb9⟩; have HB9 := Lib.hid (show Below wq.heap.size wq w9 from below_then (below_drew' (below_refl _)) hb9); have HC9 := Lib.hid (fun w'' (hu : Upd (fun b => b < wq.heap.size) w9 w'') => hC9 w'' hu); clear hb9 hC9)
          | fail)
      go_wp2_with fail
      try rw [HF.out] at HC9 l9
      try rw [HF.out]
      go_roundg (leftK m.t.G q)
      case measure => have := HLF.out; omega
      case rel => exact ⟨q, n, _, A9, c9, rfl, l9, l9', fun w'' hu => HC9.out w'' (hu.mono (fun b hb => (OQ.out.base hb).2)), blk_below XQ.out HB9.out, OQ.out.below HB9.out, HN.out, hqk, hqn, by have := HLF.out; omega, Nat.le_refl _, below_then HBQ.out HB9.out⟩
    · rw [e] at hC l1
      rw [e]
      have hleft := left_next (i := at') (j := kc.j) hq0 hs
      obtain ⟨n, rfl⟩ : ∃ n', n = n' + 1 := ⟨n - 1, by omega⟩
      have htn : (os ++ [(nameKey s.name kc.i at')]) ++ alongTo m.R m.t.G m.t.W n (seqKey (onP kc.plc) at' kc.j) = total := by
        rw [← ht]
        simp only [alongTo, e, List.append_assoc, List.cons_append, List.nil_append]
      have hqn : (seqKey (onP kc.plc) at' kc.j).kind ≠ 0 := by simp [seqKey]
      generalize (seqKey (onP kc.plc) at' kc.j) = q at hC l1 htn hqn hleft f2 e ⊢
      obtain ⟨ad, A2, c2, rfl, K⟩ := stp_at (hC wr (Upd.refl _ _)) (i := 0) rfl
      simp only [Nat.zero_mul, addr_add0] at K
      have k2 : wr.cell? ⟨ad.block, ad.off + 2, none⟩ = some (.slice A2 2 c2) := K.c2
      have kl1 : 2 ≤ c2 := K.l1
      have kl2 := K.l2
      obtain ⟨ad2, rfl, KA⟩ := ky_at K.kd (i := 0) rfl
      simp only [Nat.zero_mul, addr_add0] at KA
      have HKD := Lib.hid (kids_far hC K)
      have a0 : wr.cell? ad2 = some (.int .i64 0) := KA.c0
      have a1 : wr.cell? ⟨ad2.block, ad2.off + 1, none⟩ = some (.int .i64 s.name) := KA.c1
      have a2 : wr.cell? ⟨ad2.block, ad2.off + 2, none⟩ = some (.int .i64 0) := KA.c2
      have a3 : wr.cell? ⟨ad2.block, ad2.off + 3, none⟩ = some (.int .i64 0) := KA.c3
      have a4 : wr.cell? ⟨ad2.block, ad2.off + 4, none⟩ = some (.int .i64 0) := KA.c4
      have a5 : wr.cell? ⟨ad2.block, ad2.off + 5, none⟩ = some (.int .i64 kc.i) := KA.c5
      have a6 : wr.cell? ⟨ad2.block, ad2.off + 6, none⟩ = some (.int .i64 at') := KA.c6
      obtain ⟨A5, c5, rfl, l5, l5', -⟩ := id ho.shape
      have HO := Lib.hid ho
      have HB := Lib.hid hb
      have XB := Lib.hid hkb
      have HN := Lib.hid htn
      have HLF := Lib.hid hleft
      have hol : os.length ≤ 66 := by rw [← ht] at htl; simp only [List.length_append] at htl; omega
      have hqk := f2
      clear hC ho hb hkb htn hleft ht e hs K hp hk h1 f2 f4 hpos hq0 KA h2 f1 f3 hsn
      go_upto_region 8 with (first
        | (at_builtin; go_loud (refine wpList_append_one (d := kyRd) rfl (base := b0 + 1) _ _ 64 59 _ 56 (by rfl) Try.underlying64 infoKy (by rfl) (by show 0 < 7; decide) (v := .slice A5 os.length c5) (xs := os) (by rfl) (HO.out.below (below_alloc' (below_refl _) _)) (nameKey s.name kc.i at') #[.int .i64 0, .int .i64 s.name, .int .i64 0, .int .i64 0, .int .i64 0, .int .i64 kc.i, .int .i64 at'] (fun _ _ => rfl) (b := wr.heap.size) (c := 1) (by rfl) (by exact heap_alloc_new wr (.cells #[.int .i64 0, .int .i64 s.name, .int .i64 0, .int .i64 0, .int .i64 0, .int .i64 kc.i, .int .i64 at'] 59)) (by omega) (by decide) (by have := blk_lt XB.out; rw [World.size_alloc]; omega) ?_; intro v7 w7 o7 g7 t7; have hb7 : Below w.heap.size w w7 := (below_then HB.out (below_alloc' (below_refl _) _)).grown g7 (below_then HB.out (below_alloc' (below_refl _) _)).size (fun b hb => by have := (HO.out.base hb).1; have := HBB.out; omega); have hkb7 := blk_grown (blk_below XB.out (below_alloc' (below_refl _) _)) g7 (fun e => by have := (HO.out.base e.symm).1; omega); have hu7 : Upd (fun b => (Value.slice A5 os.length c5).ownBlock = some b) wr w7 := (Upd.of_below (below_alloc' (below_refl _) _)).trans (Upd.of_grown g7); obtain ⟨ad3, e3, KQ⟩ := ky_at (HKD.out w7 hu7) (i := 1) rfl; injection e3 with e3; subst e3; rw [addr_add7] at KQ; have q0 : w7.cell? ⟨ad2.block, ad2.off + 7, none⟩ = some (.int .i64 q.kind) := KQ.c0; have q1 : w7.cell? ⟨ad2.block, ad2.off + 7 + 1, none⟩ = some (.int .i64 q.name) := KQ.c1; have q2 : w7.cell? ⟨ad2.block, ad2.off + 7 + 2, none⟩ = some (.int .i64 q.plc.rule) := KQ.c2; have q3 : w7.cell? ⟨ad2.block, ad2.off + 7 + 3, none⟩ = some (.int .i64 q.plc.conj) := KQ.c3; have q4 : w7.cell? ⟨ad2.block, ad2.off + 7 + 4, none⟩ = some (.int .i64 q.plc.pos) := KQ.c4; have q5 : w7.cell? ⟨ad2.block, ad2.off + 7 + 5, none⟩ = some (.int .i64 q.i) := KQ.c5; have q6 : w7.cell? ⟨ad2.block, ad2.off + 7 + 6, none⟩ = some (.int .i64 q.j) := KQ.c6; have z0 : w7.cell? ⟨b0, 0, none⟩ = some (.int .i64 kc.kind) := (by simpa using blk_cell hkb7 0); have z1 : w7.cell? ⟨b0, 1, none⟩ = some (.int .i64 kc.name) := (by simpa using blk_cell hkb7 1); have z2 : w7.cell? ⟨b0, 2, none⟩ = some (.int .i64 kc.plc.rule) := (by simpa using blk_cell hkb7 2); have z3 : w7.cell? ⟨b0, 3, none⟩ = some (.int .i64 kc.plc.conj) := (by simpa using blk_cell hkb7 3); have z4 : w7.cell? ⟨b0, 4, none⟩ = some (.int .i64 kc.plc.pos) := (by simpa using blk_cell hkb7 4); have z5 : w7.cell? ⟨b0, 5, none⟩ = some (.int .i64 kc.i) := (by simpa using blk_cell hkb7 5); have z6 : w7.cell? ⟨b0, 6, none⟩ = some (.int .i64 kc.j) := (by simpa using blk_cell hkb7 6); have fz0 : w7.frozen? ⟨b0, 0, none⟩ = false := blk_frozen hkb7 0; have fz1 : w7.frozen? ⟨b0, 1, none⟩ = false := blk_frozen hkb7 1; have fz2 : w7.frozen? ⟨b0, 2, none⟩ = false := blk_frozen hkb7 2; have fz3 : w7.frozen? ⟨b0, 3, none⟩ = false := blk_frozen hkb7 3; have fz4 : w7.frozen? ⟨b0, 4, none⟩ = false := blk_frozen hkb7 4; have fz5 : w7.frozen? ⟨b0, 5, none⟩ = false := blk_frozen hkb7 5; have fz6 : w7.frozen? ⟨b0, 6, none⟩ = false := blk_frozen hkb7 6; have x1 := (HG.out.mono hb7).x1; have HB7 := Lib.hid hb7; have XB7 := Lib.hid hkb7; obtain ⟨A7, c7, ev, l7, l7', -⟩ := id o7.shape; rw [show (os ++ [(nameKey s.name kc.i at')]).length = os.length + 1 from List.length_append] at ev; subst ev; have O7 := Lib.hid o7; clear hb7 hkb7 hu7 o7 g7 t7 KQ))
        | fail)
      go_upto_region 4 with fail
      have hbq : Below w.heap.size w (setKy w7 b0 q) := HB7.out.trans ((setKy_upd w7 b0 q).below HB7.out.size (fun b hb => by have := HBB.out; omega))
      have xq : (setKy w7 b0 q).heap[b0]? = some (kyO q) := setKy_heap XB7.out
      have oq := O7.out.upd (setKy_upd w7 b0 q) (fun b (hb : b = b0) => by omega)
      change Code.wp _ _ _ _ (setKy w7 b0 q)
      generalize setKy w7 b0 q = wq at hbq xq oq ⊢
      have HBQ := Lib.hid hbq
      have XQ := Lib.hid xq
      have OQ := Lib.hid oq
      have kS := Lib.hid (fun (W : World) (hW : Below wq.heap.size wq W) => (show W.cell? ⟨x, 1, none⟩ = some (.pointer (some ⟨m.p, 0, none⟩)) ∧ W.cell? ⟨b0, 0, none⟩ = some (.int .i64 q.kind) ∧ W.cell? ⟨b0, 1, none⟩ = some (.int .i64 q.name) ∧ W.cell? ⟨b0, 2, none⟩ = some (.int .i64 q.plc.rule) ∧ W.cell? ⟨b0, 3, none⟩ = some (.int .i64 q.plc.conj) ∧ W.cell? ⟨b0, 4, none⟩ = some (.int .i64 q.plc.pos) ∧ W.cell? ⟨b0, 5, none⟩ = some (.int .i64 q.i) ∧ W.cell? ⟨b0, 6, none⟩ = some (.int .i64 q.j) from ⟨(HG.out.mono (below_then HBQ.out hW)).x1, blk_cell (blk_below XQ.out hW) 0, by simpa using blk_cell (blk_below XQ.out hW) 1, by simpa using blk_cell (blk_below XQ.out hW) 2, by simpa using blk_cell (blk_below XQ.out hW) 3, by simpa using blk_cell (blk_below XQ.out hW) 4, by simpa using blk_cell (blk_below XQ.out hW) 5, by simpa using blk_cell (blk_below XQ.out hW) 6⟩))
      clear hbq xq oq z0 fz0 q0 z1 fz1 q1 z2 fz2 q2 z3 fz3 q3 z4 fz4 q4 z5 fz5 q5 z6 fz6 q6 x1
      go_region_held3 (fun W => W.cell? ⟨x, 1, none⟩ = some (.pointer (some ⟨m.p, 0, none⟩)) ∧ W.cell? ⟨b0, 0, none⟩ = some (.int .i64 q.kind) ∧ W.cell? ⟨b0, 1, none⟩ = some (.int .i64 q.name) ∧ W.cell? ⟨b0, 2, none⟩ = some (.int .i64 q.plc.rule) ∧ W.cell? ⟨b0, 3, none⟩ = some (.int .i64 q.plc.conj) ∧ W.cell? ⟨b0, 4, none⟩ = some (.int .i64 q.plc.pos) ∧ W.cell? ⟨b0, 5, none⟩ = some (.int .i64 q.i) ∧ W.cell? ⟨b0, 6, none⟩ = some (.int .i64 q.j))
        (exact kS.out _ (by first | exact HB9.out | exact below_drew' (below_refl _)))
        (first
          | (go_at_call 21; refine (mStepsT (H0.out.mono (below_then HBQ.out (below_drew' (below_refl _)))) F q hqk).mono ?_; rintro e w9 ⟨A9, c9, rfl, l9, l9', hC9, hb9⟩; have HB9 := Lib.hid (show Below wq.heap.size wq w9 from below_then (below_drew' (below_refl _)) hb9); have HC9 := Lib.hid (fun w'' (hu : Upd (fun b => b < wq.heap.size) w9 w'') => hC9 w'' hu); clear hb9 hC9)
          | fail)
      go_wp2_with fail
      try rw [HF.out] at HC9 l9
      try rw [HF.out]
      go_roundg (leftK m.t.G q)
      case measure => have := HLF.out; omega
      case rel => exact ⟨q, n, _, A9, c9, rfl, l9, l9', fun w'' hu => HC9.out w'' (hu.mono (fun b hb => (OQ.out.base hb).2)), blk_below XQ.out HB9.out, OQ.out.below HB9.out, HN.out, hqk, hqn, by have := HLF.out; omega, Nat.le_refl _, below_then HBQ.out HB9.out⟩
    --EA
end Go.Proofs.Ytbidpeggdhkahaa
