/-
  Z6: templelaw19.CheckRings answers true.
-/
import Derived.Test.YtfmfoiecphhhiaaZ2
import Derived.Test.YtfmfoiecphhhiaaZ4
import Derived.Test.YtfmfoiecphhhiaaZ5
import Derived.Test.YtfmfoiecphhhiaaO1
import Derived.Deep.RegionHeld3
set_option linter.unusedSimpArgs false
set_option linter.unusedVariables false
namespace Go.Proofs.Ytfmfoiecphhhiaa
open Go.RowKit

theorem keep_off {w : World} {b o o' : Nat} {v u : Value} (h : w.cell? ⟨b, o, none⟩ = some v) (hne : o' ≠ o) : (w.setCell ⟨b, o', none⟩ u).cell? ⟨b, o, none⟩ = some v := by
  rw [World.cell?_setCell_other _ _ _ _ (fun e => hne (by injection e))]
  exact h
theorem ty_other {e e' : TypeId} {w : World} {b : Nat} {cs : Array Value} (h : w.heap[b]? = some (.cells cs e' (0, 0))) (hne : e' ≠ e) : ¬ TyS e w b := by
  rintro ⟨cur, hc⟩
  rw [h] at hc
  injection hc with hc
  injection hc with _ hc
  exact hne hc
theorem rul_hy {S : Nat → Prop} {W : World} {ps pc : Nat} {i s : Int} (h0 : W.heap[ps]? = some (.cells #[.int .i64 s, .int .i64 0, .int .i64 0] 46 (0, 0))) (h1 : W.heap[pc]? = some (.cells #[.bool false, .slice (some ⟨ps, 0, none⟩) 1 1] 26 (0, 0))) (hp : ¬ S ps) (hq : ¬ S pc) :
    ∀ w', Upd S W w' → (tyRd 9 rulRd).K w' ⟨i, [⟨false, [⟨s, 0, 0⟩]⟩]⟩ [.int .i64 i, .slice (some ⟨pc, 0, none⟩) 1 1] := fun w' hu w'' hu2 => by
  have a0 := (hu.block ps (blk_lt h0) hp).trans h0
  have a1 := (hu.block pc (blk_lt h1) hq).trans h1
  have c0 := (hu2.block ps (blk_lt a0) (ty_other a0 (by decide))).trans a0
  have c1 := (hu2.block pc (blk_lt a1) (ty_other a1 (by decide))).trans a1
  have d0 : symRd.C w'' (some ⟨ps, 0, none⟩) [⟨s, 0, 0⟩] := C_blk [[.int .i64 s, .int .i64 0, .int .i64 0]] c0 rfl ⟨⟨symK w'' ⟨s, 0, 0⟩, rfl⟩, trivial⟩
  have d1 : conjRd.C w'' (some ⟨pc, 0, none⟩) [⟨false, [⟨s, 0, 0⟩]⟩] := C_blk [[.bool false, .slice (some ⟨ps, 0, none⟩) 1 1]] c1 rfl ⟨⟨conjRd_mk (x := ⟨false, [⟨s, 0, 0⟩]⟩) (Nat.le_refl 1) (by decide) d0, rfl⟩, trivial⟩
  exact rulRd_mk (x := ⟨i, [⟨false, [⟨s, 0, 0⟩]⟩]⟩) (Nat.le_refl 1) (by decide) d1
abbrev ctO : Obj := .cells #[.int .i64 0, .slice none 0 0] 40 (0, 0)
/-- The grammar while it is made: i names, j rules. -/
def RgS (w : World) (bg k i j : Nat) (wr : World) : Prop := ∃ vn vr : Value, wr.heap[bg]? = some (.cells #[.int .i64 0, vn, vr] 32 (0, 0)) ∧ wr.heap[bg + 1]? = some ctO ∧ wr.heap[bg + 2]? = some ctO ∧ Own Rd.str 9 (bg + 3) wr vn (rgN i) ∧ Own (tyRd 9 rulRd) 29 (bg + 3) wr vr (rgR k j) ∧ Below w.heap.size w wr
def Rl1 (w : World) (bg k : Nat) (cnt : Value) (wr : World) : Prop := ∃ i : Nat, cnt = .int .i64 i ∧ i ≤ k ∧ RgS w bg k i i wr
theorem rgS_below {w wr w' : World} {bg k i j : Nat} (h : RgS w bg k i j wr) (hb : Below wr.heap.size wr w') : RgS w bg k i j w' := by
  obtain ⟨vn, vr, h0, h1, h2, hn, hr, hbw⟩ := h
  exact ⟨vn, vr, blk_below h0 hb, blk_below h1 hb, blk_below h2 hb, hn.below hb, hr.below hb, below_then hbw hb⟩
theorem own_ne {α β : Type} {d : Rd α} {d' : Rd β} {e e' : TypeId} {base base' : Nat} {w : World} {v v' : Value} {xs : List α} {ys : List β} (h : Own d e base w v xs) (h' : Own d' e' base' w v' ys) (hne : e ≠ e') : ∀ b, v.ownBlock = some b → v'.ownBlock ≠ some b := fun b hb => own_type_ne h h' hne hb
theorem rgS_name {w W w6 : World} {bg k i j : Nat} {vn vr v6 : Value} (hw : w.heap.size ≤ bg) (h0 : W.heap[bg]? = some (.cells #[.int .i64 0, vn, vr] 32 (0, 0))) (h1 : W.heap[bg + 1]? = some ctO) (h2 : W.heap[bg + 2]? = some ctO) (hn : Own Rd.str 9 (bg + 3) W vn (rgN i)) (hr : Own (tyRd 9 rulRd) 29 (bg + 3) W vr (rgR k j)) (hb : Below w.heap.size w W)
    (o6 : Own Rd.str 9 (bg + 3) w6 v6 (rgN i ++ [nmS i])) (g6 : W.grownBy w6 vn.ownBlock) : RgS w bg k (i + 1) j (w6.setCell ⟨bg, 1, none⟩ v6) := by
  have hne : ∀ b, b < bg + 3 → some b ≠ vn.ownBlock := fun b hb e => by have := (hn.base e.symm).1; omega
  have hz : Upd (fun b => b = bg) w6 (w6.setCell ⟨bg, 1, none⟩ v6) := (Upd.refl (fun b => b = bg) w6).setCell (p := ⟨bg, 1, none⟩) rfl _
  have e0 := blk_grown h0 g6 (hne bg (by omega))
  have e1 := blk_grown h1 g6 (hne (bg + 1) (by omega))
  have e2 := blk_grown h2 g6 (hne (bg + 2) (by omega))
  refine ⟨v6, vr, blk_set e0 1 v6, (hz.block _ (blk_lt e1) (show ¬ (bg + 1 = bg) by omega)).trans e1, (hz.block _ (blk_lt e2) (show ¬ (bg + 2 = bg) by omega)).trans e2, ?_, ?_, ?_⟩
  · rw [rgN_succ]
    exact o6.upd hz (fun b (e : b = bg) => by omega)
  · exact (own_ty_grown hr hn g6 (own_ne hn hr (by decide))).upd hz (fun b (e : b = bg) => by omega)
  · exact (hb.grown g6 hb.size (fun b hb' => by have := (hn.base hb').1; omega)).setCell (by simp only; omega) _
theorem rgS_rule {w W w6 : World} {bg k i j : Nat} {vn vr v6 : Value} (hw : w.heap.size ≤ bg) (h0 : W.heap[bg]? = some (.cells #[.int .i64 0, vn, vr] 32 (0, 0))) (h1 : W.heap[bg + 1]? = some ctO) (h2 : W.heap[bg + 2]? = some ctO) (hn : Own Rd.str 9 (bg + 3) W vn (rgN i)) (hr : Own (tyRd 9 rulRd) 29 (bg + 3) W vr (rgR k j)) (hb : Below w.heap.size w W)
    (o6 : Own (tyRd 9 rulRd) 29 (bg + 3) w6 v6 (rgR k j ++ [rgRul k j])) (g6 : W.grownBy w6 vr.ownBlock) : RgS w bg k i (j + 1) (w6.setCell ⟨bg, 2, none⟩ v6) := by
  have hne : ∀ b, b < bg + 3 → some b ≠ vr.ownBlock := fun b hb e => by have := (hr.base e.symm).1; omega
  have hz : Upd (fun b => b = bg) w6 (w6.setCell ⟨bg, 2, none⟩ v6) := (Upd.refl (fun b => b = bg) w6).setCell (p := ⟨bg, 2, none⟩) rfl _
  have e0 := blk_grown h0 g6 (hne bg (by omega))
  have e1 := blk_grown h1 g6 (hne (bg + 1) (by omega))
  have e2 := blk_grown h2 g6 (hne (bg + 2) (by omega))
  refine ⟨vn, v6, blk_set e0 2 v6, (hz.block _ (blk_lt e1) (show ¬ (bg + 1 = bg) by omega)).trans e1, (hz.block _ (blk_lt e2) (show ¬ (bg + 2 = bg) by omega)).trans e2, ?_, ?_, ?_⟩
  · exact (hn.flat_upd flat_str (Upd.of_grown g6) (own_ne hn hr (by decide))).upd hz (fun b (e : b = bg) => by omega)
  · rw [rgR_succ]
    exact o6.upd hz (fun b (e : b = bg) => by omega)
  · exact (hb.grown g6 hb.size (fun b hb' => by have := (hr.base hb').1; omega)).setCell (by simp only; omega) _
def rgB' (k : Nat) (r : Int) (i : Nat) : Nod := ⟨true, 1, 0, ⟨i, 0, 0⟩, 0, 0, 3 * ((k : Int) - i) + r + 2, [⟨0, 0, [3 * (((i : Int) + 1) % (k : Int)), 3 * (i : Int) + 2]⟩]⟩
theorem rgB_eq (k : Nat) (r : Int) (i : Nat) : rgB k r i = rgB' k r i := by unfold rgB rgB'; push_cast; rfl
def rgE' (k i : Nat) : Nod := ⟨false, 1, 0, ⟨i, 0, 0⟩, 0, 0, 0, [⟨0, 0, [2 * (((i : Int) + 1) % (k : Int))]⟩]⟩
theorem rgE_eq (k i : Nat) : rgE k i = rgE' k i := by unfold rgE rgE'; push_cast; rfl
theorem set_keep {w : World} {a : Addr} {v : Value} {b : Nat} {o : Obj} (h : w.heap[b]? = some o) (hne : b ≠ a.block) : (w.setCell a v).heap[b]? = some o := ((Upd.refl (fun k => k = a.block) w).setCell (p := a) rfl v).block b (blk_lt h) hne |>.trans h
/-- A place, laid. -/
def plO (i q : Int) : Obj := .cells #[.int .i64 i, .int .i64 0, .int .i64 q] 34 (0, 0)
theorem rg_wf {k : Nat} {r : Int} (hk : k ≤ 8) (h0 : 0 ≤ r) (h1 : r ≤ 1023) : (∀ x ∈ rgIn k r k, KyWf x.ky) ∧ (∀ x ∈ rgOut k k, KyWf x.ky) := by
  constructor
  · intro x hx q hq
    unfold rgIn at hx
    obtain ⟨i, hi, hx⟩ := List.mem_flatMap.1 hx
    have hi := List.mem_range.1 hi
    simp only [List.mem_cons, List.mem_nil_iff, or_false] at hx
    rcases hx with rfl | rfl | rfl <;> simp [rgA, rgB, rgC, Nod.ky] at hq <;> omega
  · intro x hx q hq
    unfold rgOut at hx
    obtain ⟨i, hi, hx⟩ := List.mem_flatMap.1 hx
    have hi := List.mem_range.1 hi
    simp only [List.mem_cons, List.mem_nil_iff, or_false] at hx
    rcases hx with rfl | rfl <;> simp [rgD, rgE, Nod.ky] at hq <;> omega
theorem rg_asked {k : Nat} {c : Crt} (hk1 : 1 ≤ k) (hk8 : k ≤ 8) (hc : c.nodes.length ≤ 65536) : ¬ NotAsked (rgG k) eB c := by
  rintro ((h | h) | h | h)
  · rw [rg_may hk1 hk8] at h; cases h
  · exact rg_cyc k h
  · exact absurd h (by decide)
  · omega
theorem rg_in_chk {w : World} {k : Nat} {r : Int} {An Ar Ai : Option Addr} {kn kr ki : Nat} (hk1 : 1 ≤ k) (hk8 : k ≤ 8) (hr0 : 0 ≤ r) (hr1 : r ≤ 1023) (n1 : (rgN k).length ≤ kn) (n2 : kn ≤ 9223372036854775807) (n3 : Rd.str.C w An (rgN k)) (n4 : (rgR k k).length ≤ kr) (n5 : kr ≤ 9223372036854775807) (n6 : rulRd.C w Ar (rgR k k)) (m1 : (rgIn k r k).length ≤ ki) (m2 : ki ≤ 9223372036854775807) (m3 : nodRd.C w Ai (rgIn k r k)) :
    Calls Try.prog 7 #[.agg #[.int .i64 0, .slice An (rgN k).length kn, .slice Ar (rgR k k).length kr], .string ⟨#[]⟩, .agg #[.int .i64 0, .slice Ai (rgIn k r k).length ki]] w fun e w' => e = .returned (.tuple #[.bool false, .int .i64 1901]) ∧ Below w.heap.size w w' :=
  (check_any (rgG k) eB ⟨0, rgIn k r k⟩ (by decide) n1 n2 n3 n4 n5 n6 m1 m2 m3 (rg_wf hk8 hr0 hr1).1).mono fun e w' h => check_no h (rg_asked hk1 hk8 (by show (rgIn k r k).length ≤ 65536; rw [rgIn_len]; omega)) (rg_in hk1 hr0)
theorem rg_out_sign {k : Nat} (hk : 1 ≤ k) : signB ⟨0, rgOut k k⟩ = false := by
  obtain ⟨m, rfl⟩ : ∃ m, k = m + 1 := ⟨k - 1, by omega⟩
  have h0 : (rgOut (m + 1) (m + 1))[0]? = some (rgD 0) := by
    unfold rgOut
    rw [List.range_succ_eq_map]
    simp
  unfold signB ndAt
  simp only [Int.toNat_zero, h0]
  simp [rgD]
theorem rg_out_chk {w : World} {k : Nat} {An Ar Ao : Option Addr} {kn kr ko : Nat} (hk1 : 1 ≤ k) (hk8 : k ≤ 8) (n1 : (rgN k).length ≤ kn) (n2 : kn ≤ 9223372036854775807) (n3 : Rd.str.C w An (rgN k)) (n4 : (rgR k k).length ≤ kr) (n5 : kr ≤ 9223372036854775807) (n6 : rulRd.C w Ar (rgR k k)) (m1 : (rgOut k k).length ≤ ko) (m2 : ko ≤ 9223372036854775807) (m3 : nodRd.C w Ao (rgOut k k)) :
    Calls Try.prog 7 #[.agg #[.int .i64 0, .slice An (rgN k).length kn, .slice Ar (rgR k k).length kr], .string ⟨#[]⟩, .agg #[.int .i64 0, .slice Ao (rgOut k k).length ko]] w fun e w' => e = .returned (.tuple #[.bool false, .int .i64 0]) ∧ Below w.heap.size w w' :=
  (check_any (rgG k) eB ⟨0, rgOut k k⟩ (by decide) n1 n2 n3 n4 n5 n6 m1 m2 m3 (rg_wf (r := 0) hk8 (by omega) (by omega)).2).mono fun e w' h => by
    have := check_yes h (rg_asked hk1 hk8 (by show (rgOut k k).length ≤ 65536; rw [rgOut_len]; omega)) (rg_out hk1 hk8)
    rwa [rg_out_sign hk1] at this
theorem hy3 {α : Type} {d : Rd α} {S : Nat → Prop} {W : World} {y1 y2 y3 : α} {c1 c2 c3 : List Value} (h1 : ∀ w', Upd S W w' → d.K w' y1 c1) (h2 : ∀ w', Upd S W w' → d.K w' y2 c2) (h3 : ∀ w', Upd S W w' → d.K w' y3 c3) : ∀ (i : Nat) (x : α) (cs : List Value), [y1, y2, y3][i]? = some x → [c1, c2, c3][i]? = some cs → ∀ w', Upd S W w' → d.K w' x cs := fun i x cs hx hc => by
  match i, hx, hc with
  | 0, hx, hc => simp at hx hc; subst hx; subst hc; exact h1
  | 1, hx, hc => simp at hx hc; subst hx; subst hc; exact h2
  | 2, hx, hc => simp at hx hc; subst hx; subst hc; exact h3
  | i + 3, hx, _ => simp at hx
theorem hy2 {α : Type} {d : Rd α} {S : Nat → Prop} {W : World} {y1 y2 : α} {c1 c2 : List Value} (h1 : ∀ w', Upd S W w' → d.K w' y1 c1) (h2 : ∀ w', Upd S W w' → d.K w' y2 c2) : ∀ (i : Nat) (x : α) (cs : List Value), [y1, y2][i]? = some x → [c1, c2][i]? = some cs → ∀ w', Upd S W w' → d.K w' x cs := fun i x cs hx hc => by
  match i, hx, hc with
  | 0, hx, hc => simp at hx hc; subst hx; subst hc; exact h1
  | 1, hx, hc => simp at hx hc; subst hx; subst hc; exact h2
  | i + 2, hx, _ => simp at hx
abbrev NR : Rd Nod := tyRd 37 nodRd
/-- Both proofs while they are made. -/
def Rg2 (w4 : World) (bg k : Nat) (r : Int) (i j : Nat) (wr : World) : Prop := ∃ vi vo : Value, wr.heap[bg + 1]? = some (.cells #[.int .i64 0, vi] 40 (0, 0)) ∧ wr.heap[bg + 2]? = some (.cells #[.int .i64 0, vo] 40 (0, 0)) ∧ Own NR 37 w4.heap.size wr vi (rgIn k r i) ∧ Own NR 37 w4.heap.size wr vo (rgOut k j) ∧
  (∀ b, vi.ownBlock = some b → vo.ownBlock ≠ some b) ∧ Upd (fun b => b = bg + 1 ∨ b = bg + 2) w4 wr
def Rl2 (w4 : World) (bg k : Nat) (r : Int) (cnt : Value) (wr : World) : Prop := ∃ i : Nat, cnt = .int .i64 i ∧ i ≤ k ∧ Rg2 w4 bg k r i i wr
theorem rg2_below {w4 wr w' : World} {bg k i j : Nat} {r : Int} (h : Rg2 w4 bg k r i j wr) (hb : Below wr.heap.size wr w') : Rg2 w4 bg k r i j w' := by
  obtain ⟨vi, vo, h1, h2, hI, hO, hn, hu⟩ := h
  exact ⟨vi, vo, blk_below h1 hb, blk_below h2 hb, hI.below hb, hO.below hb, hn, hu.trans (Upd.of_below hb)⟩
theorem upd_grown {R : Nat → Prop} {w4 W w6 : World} {row : Option Nat} (hu : Upd R w4 W) (hg : W.grownBy w6 row) (hr : ∀ b, row = some b → w4.heap.size ≤ b) : Upd R w4 w6 :=
  ⟨hg.os.trans hu.os, hg.tape.trans hu.tape, hg.output.trans hu.output, Nat.le_trans hu.size hg.size, fun k hk hn => (hg.block k (Nat.lt_of_lt_of_le hk hu.size) (fun e => by have := hr k e.symm; omega)).trans (hu.block k hk hn)⟩
theorem rg2_in {w4 W w6 : World} {bg k i j : Nat} {r : Int} {vi vo v6 : Value} {ys : List Nod} {i' : Nat} (hbs : bg + 3 ≤ w4.heap.size) (h1 : W.heap[bg + 1]? = some (.cells #[.int .i64 0, vi] 40 (0, 0))) (h2 : W.heap[bg + 2]? = some (.cells #[.int .i64 0, vo] 40 (0, 0))) (hI : Own NR 37 w4.heap.size W vi (rgIn k r i)) (hO : Own NR 37 w4.heap.size W vo (rgOut k j))
    (hn : ∀ b, vi.ownBlock = some b → vo.ownBlock ≠ some b) (hu : Upd (fun b => b = bg + 1 ∨ b = bg + 2) w4 W) (hys : rgIn k r i' = rgIn k r i ++ ys) (o6 : Own NR 37 w4.heap.size w6 v6 (rgIn k r i ++ ys)) (g6 : W.grownBy w6 vi.ownBlock) (t6 : v6.ownBlock = vi.ownBlock ∨ v6.ownBlock = some W.heap.size) : Rg2 w4 bg k r i' j (w6.setCell ⟨bg + 1, 1, none⟩ v6) := by
  have hne : ∀ b, b < w4.heap.size → some b ≠ vi.ownBlock := fun b hb e => by have := (hI.base e.symm).1; omega
  have hz : Upd (fun b => b = bg + 1) w6 (w6.setCell ⟨bg + 1, 1, none⟩ v6) := (Upd.refl (fun b => b = bg + 1) w6).setCell (p := ⟨bg + 1, 1, none⟩) rfl _
  have e1 := blk_grown h1 g6 (hne (bg + 1) (by omega))
  have e2 := blk_grown h2 g6 (hne (bg + 2) (by omega))
  refine ⟨v6, vo, blk_set e1 1 v6, (hz.block _ (blk_lt e2) (show ¬ (bg + 2 = bg + 1) by omega)).trans e2, ?_, ?_, ?_, ?_⟩
  · rw [hys]
    exact o6.upd hz (fun b (e : b = bg + 1) => by omega)
  · exact (own_ty_grown hO hI g6 hn).upd hz (fun b (e : b = bg + 1) => by omega)
  · intro b hb hb'
    rcases t6 with e | e
    · rw [e] at hb; exact hn b hb hb'
    · rw [e] at hb
      injection hb with hb
      have := (hO.base hb').2
      omega
  · exact (upd_grown hu g6 (fun b hb => (hI.base hb).1)).trans (hz.mono (fun b hb => .inl hb))
theorem rg2_out {w4 W w6 : World} {bg k i j : Nat} {r : Int} {vi vo v6 : Value} {ys : List Nod} {j' : Nat} (hbs : bg + 3 ≤ w4.heap.size) (h1 : W.heap[bg + 1]? = some (.cells #[.int .i64 0, vi] 40 (0, 0))) (h2 : W.heap[bg + 2]? = some (.cells #[.int .i64 0, vo] 40 (0, 0))) (hI : Own NR 37 w4.heap.size W vi (rgIn k r i)) (hO : Own NR 37 w4.heap.size W vo (rgOut k j))
    (hn : ∀ b, vi.ownBlock = some b → vo.ownBlock ≠ some b) (hu : Upd (fun b => b = bg + 1 ∨ b = bg + 2) w4 W) (hys : rgOut k j' = rgOut k j ++ ys) (o6 : Own NR 37 w4.heap.size w6 v6 (rgOut k j ++ ys)) (g6 : W.grownBy w6 vo.ownBlock) (t6 : v6.ownBlock = vo.ownBlock ∨ v6.ownBlock = some W.heap.size) : Rg2 w4 bg k r i j' (w6.setCell ⟨bg + 2, 1, none⟩ v6) := by
  have hne : ∀ b, b < w4.heap.size → some b ≠ vo.ownBlock := fun b hb e => by have := (hO.base e.symm).1; omega
  have hz : Upd (fun b => b = bg + 2) w6 (w6.setCell ⟨bg + 2, 1, none⟩ v6) := (Upd.refl (fun b => b = bg + 2) w6).setCell (p := ⟨bg + 2, 1, none⟩) rfl _
  have e1 := blk_grown h1 g6 (hne (bg + 1) (by omega))
  have e2 := blk_grown h2 g6 (hne (bg + 2) (by omega))
  refine ⟨vi, v6, (hz.block _ (blk_lt e1) (show ¬ (bg + 1 = bg + 2) by omega)).trans e1, blk_set e2 1 v6, ?_, ?_, ?_, ?_⟩
  · exact (own_ty_grown hI hO g6 (fun b hb hb' => hn b hb' hb)).upd hz (fun b (e : b = bg + 2) => by omega)
  · rw [hys]
    exact o6.upd hz (fun b (e : b = bg + 2) => by omega)
  · intro b hb hb'
    rcases t6 with e | e
    · rw [e] at hb'; exact hn b hb hb'
    · rw [e] at hb'
      injection hb' with hb'
      have := (hI.base hb).2
      omega
  · exact (upd_grown hu g6 (fun b hb => (hO.base hb).1)).trans (hz.mono (fun b hb => .inr hb))
set_option maxRecDepth 100000 in
set_option maxHeartbeats 16000000 in
theorem rings_any (w : World) (many rank : Int) : Calls Try.prog 5 #[.int .i64 many, .int .i64 rank] w fun e w' => e = .returned (.bool true) ∧ Below w.heap.size w w' := by
  obtain ⟨k, hk, hk1, hk8⟩ : ∃ k : Nat, wrap64 (1 + bits BinOp.and .i64 many 7) = (k : Int) ∧ 1 ≤ k ∧ k ≤ 8 := by
    have h := and_smallZ many (m := 7) (by omega)
    simp only [Int.cast_ofNat_Int] at h
    generalize bits BinOp.and .i64 many 7 = q at h ⊢
    obtain ⟨h0, h1⟩ := h
    refine ⟨1 + q.toNat, ?_, by omega, by omega⟩
    unfold wrap64
    omega
  go_enter Try.func5, Try.ntmps5
  go_upto_region 7 with (first | (go_at_call 6; refine (awake_any _).mono ?_; rintro e w1 ⟨rfl, hb1⟩; have HB1 := Lib.hid hb1; clear hb1) | fail)
  try rw [hk]
  have h0 := heap_alloc2_old w1 (Obj.cells #[.int .i64 0, .slice none 0 0, .slice none 0 0] 32) ctO
  have h1 := heap_alloc2_new w1 (Obj.cells #[.int .i64 0, .slice none 0 0, .slice none 0 0] 32) ctO
  have hb2 : Below w1.heap.size w1 ((w1.alloc (Obj.cells #[.int .i64 0, .slice none 0 0, .slice none 0 0] 32)).alloc ctO) := below_alloc' (below_alloc' (below_refl w1) _) _
  have hsz : ((w1.alloc (Obj.cells #[.int .i64 0, .slice none 0 0, .slice none 0 0] 32)).alloc ctO).heap.size = w1.heap.size + 2 := by simp
  obtain ⟨bg, hbg⟩ : ∃ bg, bg = w1.heap.size := ⟨_, rfl⟩
  rw [← hbg] at h0 h1 hb2 hsz ⊢
  generalize (w1.alloc (Obj.cells #[.int .i64 0, .slice none 0 0, .slice none 0 0] 32)).alloc ctO = w2 at h0 h1 hb2 hsz ⊢
  have h2 := heap_alloc_new w2 ctO
  have hb3 := below_alloc' (below_refl w2) ctO
  rw [hsz] at h2
  generalize w2.alloc ctO = w3 at h2 hb3 ⊢
  have HWB := Lib.hid (show w.heap.size ≤ bg by rw [hbg]; exact HB1.out.size)
  have R0 := Lib.hid (show RgS w bg k 0 0 w3 from ⟨_, _, blk_below h0 hb3, blk_below h1 hb3, h2, Own.nil _ _ _ _, Own.nil _ _ _ _, below_then (below_then HB1.out (by rw [← hbg]; exact hb2)) hb3⟩)
  clear h0 h1 h2 hb2 hb3 hsz hbg HB1
  go_loopw [9] (fun cnt wr => Rl1 w bg k cnt wr) (fun cnt _ => k - (intOf cnt).toNat)
  case atStart => exact ⟨0, rfl, Nat.zero_le _, R0.out⟩
  case round =>
    clear R0
    obtain ⟨i, rfl, hi, hst⟩ := hrel
    by_cases hlt : i < k
    · have hii : (i : Int) < (k : Int) := by omega
      obtain ⟨vn, vr, h0, h1, h2, hn, hr, hb⟩ := hst
      obtain ⟨An, kn, rfl, -, -, -⟩ := id hn.shape
      rw [rgN_len] at h0 hn
      have G0 := Lib.hid h0
      have G1 := Lib.hid h1
      have G2 := Lib.hid h2
      have ON := Lib.hid hn
      have OR := Lib.hid hr
      have HB := Lib.hid hb
      have c1 : wr.cell? ⟨bg, 1, none⟩ = some (.slice An i kn) := blk_cell h0 1
      have c0 : wr.cell? ⟨bg, 0, none⟩ = some (.int .i64 0) := blk_cell h0 0
      have lb : bg < wr.heap.size := blk_lt h0
      have HL5 := Lib.hid (show (rgN i ++ [nmS i]).length = i + 1 by simp [rgN_len])
      clear h0 h1 h2 hn hr hb
      go_upto_region 9 with fail
      go_cut [9] (fun s9 wx => s9 = .int .i64 i ∧ RgS w bg k (i + 1) i wx)
      case first =>
        --R9
        refine wp_region_last (n := 8) (S := (fun w' => w'.cell? ⟨bg, 0, none⟩ = some (.int .i64 0) ∧ w'.cell? ⟨bg, 1, none⟩ = some (.slice An i kn))) (by kernel_rfl) (by rfl) (by kernel_rfl) rfl ?_ (fun hHeld => ?_)
        · (try dsimp only)
          (first | exact ⟨c0, c1⟩ | exact ⟨m0, m1⟩ | exact ⟨l0, l1⟩ | exact ⟨below_cell (w := w5) (by repeat (first | exact below_refl _ | apply below_alloc' | apply below_drew')) l0, below_cell (w := w5) (by repeat (first | exact below_refl _ | apply below_alloc' | apply below_drew')) l1⟩ | exact ⟨below_cell (w := wr) (by repeat (first | exact below_refl _ | apply below_alloc' | apply below_drew')) c0, below_cell (w := wr) (by repeat (first | exact below_refl _ | apply below_alloc' | apply below_drew')) c1⟩)
        try simp only [List.pop_toArray, List.dropLast_cons_cons, List.dropLast_singleton, List.dropLast]
        refine wpAnyH_take (i := 0) (v := ?_) rfl (by kernel_rfl) (by kernel_rfl) (by kernel_rfl) (fun _ _ _ h => h) (Or.inl ⟨by rfl, ?_⟩) (by assumption) ?_
        rotate_left 1
        · (intro w hSw; (try dsimp only at hSw); (go_simp <;> with_reducible rfl))
        try simp only [Act.put, List.setIfInBounds_toArray, List.set_cons_zero, List.set_cons_succ]
        refine wpAnyH_take (i := 1) (v := ?_) rfl (by kernel_rfl) (by kernel_rfl) (by kernel_rfl) (fun _ _ _ h => h) (Or.inl ⟨by rfl, ?_⟩) (by assumption) ?_
        rotate_left 1
        · (intro w hSw; (try dsimp only at hSw); (go_simp <;> with_reducible rfl))
        try simp only [Act.put, List.setIfInBounds_toArray, List.set_cons_zero, List.set_cons_succ]
        refine wpAnyH_take (i := 2) (v := ?_) rfl (by kernel_rfl) (by kernel_rfl) (by kernel_rfl) (fun _ _ _ h => h) (Or.inl ⟨by rfl, ?_⟩) (by assumption) ?_
        rotate_left 1
        · (intro w hSw; (try dsimp only at hSw); (go_simp <;> with_reducible rfl))
        try simp only [Act.put, List.setIfInBounds_toArray, List.set_cons_zero, List.set_cons_succ]
        refine wpAnyH_ready (rs := [3]) (by kernel_rfl) (by simp) ?_
        refine AllReadyH.cons rfl (fun K hK => ?_) AllReadyH.nil
        try clear hHeld
        go_simp
        (go_at_call 9; refine (decimal_any _ i (by omega)).mono ?_; rintro e w5 ⟨rfl, hb5⟩; have HB5 := Lib.hid (show Below wr.heap.size wr w5 from below_then (below_drew' (below_refl wr)) hb5); have l0 := below_cell HB5.out c0; have l1 := below_cell HB5.out c1; have ll : bg < w5.heap.size := Nat.lt_of_lt_of_le lb HB5.out.size; clear hb5)
        try dsimp only
        refine hK.out _ _ ?_ (fun hHeld => ?_)
        · (try dsimp only)
          (first | exact ⟨c0, c1⟩ | exact ⟨m0, m1⟩ | exact ⟨l0, l1⟩ | exact ⟨below_cell (w := w5) (by repeat (first | exact below_refl _ | apply below_alloc' | apply below_drew')) l0, below_cell (w := w5) (by repeat (first | exact below_refl _ | apply below_alloc' | apply below_drew')) l1⟩ | exact ⟨below_cell (w := wr) (by repeat (first | exact below_refl _ | apply below_alloc' | apply below_drew')) c0, below_cell (w := wr) (by repeat (first | exact below_refl _ | apply below_alloc' | apply below_drew')) c1⟩)
        clear hK K
        try simp only [Act.put, List.setIfInBounds_toArray, List.set_cons_zero, List.set_cons_succ]
        refine wpAnyH_ready (rs := [4]) (by kernel_rfl) (by simp) ?_
        refine AllReadyH.cons rfl (fun K hK => ?_) AllReadyH.nil
        try clear hHeld
        go_simp
        refine hK.out _ _ ?_ (fun hHeld => ?_)
        · (try dsimp only)
          (first | exact ⟨c0, c1⟩ | exact ⟨m0, m1⟩ | exact ⟨l0, l1⟩ | exact ⟨below_cell (w := w5) (by repeat (first | exact below_refl _ | apply below_alloc' | apply below_drew')) l0, below_cell (w := w5) (by repeat (first | exact below_refl _ | apply below_alloc' | apply below_drew')) l1⟩ | exact ⟨below_cell (w := wr) (by repeat (first | exact below_refl _ | apply below_alloc' | apply below_drew')) c0, below_cell (w := wr) (by repeat (first | exact below_refl _ | apply below_alloc' | apply below_drew')) c1⟩)
        clear hK K
        try simp only [Act.put, List.setIfInBounds_toArray, List.set_cons_zero, List.set_cons_succ]
        refine wpAnyH_ready (rs := [5]) (by kernel_rfl) (by simp) ?_
        refine AllReadyH.cons rfl (fun K hK => ?_) AllReadyH.nil
        try clear hHeld
        go_simp
        refine hK.out _ _ ?_ (fun hHeld => ?_)
        · (try dsimp only)
          (first | exact ⟨c0, c1⟩ | exact ⟨m0, m1⟩ | exact ⟨l0, l1⟩ | exact ⟨below_cell (w := w5) (by repeat (first | exact below_refl _ | apply below_alloc' | apply below_drew')) l0, below_cell (w := w5) (by repeat (first | exact below_refl _ | apply below_alloc' | apply below_drew')) l1⟩ | exact ⟨below_cell (w := wr) (by repeat (first | exact below_refl _ | apply below_alloc' | apply below_drew')) c0, below_cell (w := wr) (by repeat (first | exact below_refl _ | apply below_alloc' | apply below_drew')) c1⟩)
        clear hK K
        try simp only [Act.put, List.setIfInBounds_toArray, List.set_cons_zero, List.set_cons_succ]
        refine wpAnyH_ready (rs := [6]) (by kernel_rfl) (by simp) ?_
        refine AllReadyH.cons rfl (fun K hK => ?_) AllReadyH.nil
        try clear hHeld
        ((refine step_append_one (d := Rd.str) (base := bg + 3) (by rfl) _ _ 23 9 _ 16 (by rfl) Try.underlying23 infoStr (by rfl) (by decide) (v := .slice An i kn) (xs := rgN i) (by rfl) ((ON.out.below HB5.out).below (below_alloc' (below_refl _) _)) (nmS i) #[.string (nmS i)] (fun _ _ => rfl) (b := w5.heap.size) (c := 1) (by rfl) (heap_alloc_new w5 _) (by rw [rgN_len]; omega) (by decide) (by have := blk_lt (blk_below G2.out HB5.out); simp; omega) ?_); intro v6 w6 o6 g6 t6; obtain ⟨A6, k6, ev6, -, -, -⟩ := id o6.shape; rw [HL5.out] at ev6; subst ev6; have q6 := blk_grown (blk_below (blk_below G0.out HB5.out) (below_alloc' (below_refl w5) _)) g6 (by intro e; have := (ON.out.base e.symm).1; omega); have m0 : w6.cell? ⟨bg, 0, none⟩ = some (.int .i64 0) := blk_cell q6 0; have m1 : w6.cell? ⟨bg, 1, none⟩ = some (.slice An i kn) := blk_cell q6 1; have f1 : w6.frozen? ⟨bg, 1, none⟩ = false := blk_frozen q6 1; have HZ := Lib.hid (rgS_name HWB.out (blk_below (blk_below G0.out HB5.out) (below_alloc' (below_refl w5) _)) (blk_below (blk_below G1.out HB5.out) (below_alloc' (below_refl w5) _)) (blk_below (blk_below G2.out HB5.out) (below_alloc' (below_refl w5) _)) ((ON.out.below HB5.out).below (below_alloc' (below_refl w5) _)) ((OR.out.below HB5.out).below (below_alloc' (below_refl w5) _)) (below_then (below_then HB.out HB5.out) (below_alloc' (below_refl w5) _)) o6 g6); clear o6 g6 t6 q6)
        refine hK.out _ _ ?_ (fun hHeld => ?_)
        · (try dsimp only)
          (first | exact ⟨c0, c1⟩ | exact ⟨m0, m1⟩ | exact ⟨l0, l1⟩ | exact ⟨below_cell (w := w5) (by repeat (first | exact below_refl _ | apply below_alloc' | apply below_drew')) l0, below_cell (w := w5) (by repeat (first | exact below_refl _ | apply below_alloc' | apply below_drew')) l1⟩ | exact ⟨below_cell (w := wr) (by repeat (first | exact below_refl _ | apply below_alloc' | apply below_drew')) c0, below_cell (w := wr) (by repeat (first | exact below_refl _ | apply below_alloc' | apply below_drew')) c1⟩)
        clear hK K
        try simp only [Act.put, List.setIfInBounds_toArray, List.set_cons_zero, List.set_cons_succ]
        refine wpAnyH_take (i := 7) (v := ?_) rfl (by kernel_rfl) (by kernel_rfl) (by kernel_rfl) (fun _ _ _ h => h) (Or.inl ⟨by rfl, ?_⟩) (by assumption) ?_
        rotate_left 1
        · (intro w hSw; (try dsimp only at hSw); (go_simp <;> with_reducible rfl))
        try simp only [Act.put, List.setIfInBounds_toArray, List.set_cons_zero, List.set_cons_succ]
        refine wpAnyH_done (by kernel_rfl) ?_ _
        refine lastQ_normal rfl (fun K hK => ?_)
        go_simp
        refine hK.out _ _ ?_
        clear hK K
        try simp only [Act.put, List.setIfInBounds_toArray, List.set_cons_zero, List.set_cons_succ]
        go_wp2_with fail
        go_meet
        first
          | exact ⟨rfl, HZ.out⟩
          | exact ⟨rfl, rgS_below HZ.out (below_drew' (below_refl _))⟩
        --E9
      case rest =>
        obtain ⟨rfl, hst⟩ := hcut
        clear c0 c1 lb G0 G1 G2 ON OR HB HL5
        obtain ⟨w5, hw5⟩ : ∃ w5, w5 = wc := ⟨_, rfl⟩
        rw [← hw5] at hst ⊢
        clear hw5 wc
        obtain ⟨vn, vr, h0, h1, h2, hn, hr, hb⟩ := hst
        obtain ⟨An, kn, rfl, -, -, -⟩ := id hr.shape
        rw [rgR_len] at h0 hr
        have G0 := Lib.hid h0
        have G1 := Lib.hid h1
        have G2 := Lib.hid h2
        have ON := Lib.hid hn
        have OR := Lib.hid hr
        have HB := Lib.hid hb
        have c2 : w5.cell? ⟨bg, 2, none⟩ = some (.slice An i kn) := blk_cell h0 2
        have c0 : w5.cell? ⟨bg, 0, none⟩ = some (.int .i64 0) := blk_cell h0 0
        have lb : bg < w5.heap.size := blk_lt h0
        have HL5 := Lib.hid (show (rgR k i ++ [rgRul k i]).length = i + 1 by simp [rgR_len])
        have RGE := Lib.hid (show rgRul k i = ⟨(i : Int), [⟨false, [⟨((i : Int) + 1) % (k : Int), 0, 0⟩]⟩]⟩ by unfold rgRul; push_cast; rfl)
        have hk0 : ((k : Int) == 0) = false := by simp; omega
        have hk0' : ((k : Int) = 0) = False := eq_false (by omega)
        have HX0 := Lib.hid (show (((w5.alloc (Obj.cells #[.int .i64 (((i : Int) + 1) % (k : Int)), .int .i64 0, .int .i64 0] 46)).alloc (Obj.cells #[.bool false, .slice (some ⟨w5.heap.size, 0, none⟩) 1 1] 26)).alloc (Obj.cells #[.int .i64 (i : Int), .slice (some ⟨w5.heap.size + 1, 0, none⟩) 1 1] 29)).heap[w5.heap.size]? = some (Obj.cells #[.int .i64 (((i : Int) + 1) % (k : Int)), .int .i64 0, .int .i64 0] 46) from by rw [((below_alloc' (below_alloc' (below_refl (w5.alloc (Obj.cells #[.int .i64 (((i : Int) + 1) % (k : Int)), .int .i64 0, .int .i64 0] 46))) (Obj.cells #[.bool false, .slice (some ⟨w5.heap.size, 0, none⟩) 1 1] 26)) (Obj.cells #[.int .i64 (i : Int), .slice (some ⟨w5.heap.size + 1, 0, none⟩) 1 1] 29))).block w5.heap.size (by simp)]; exact heap_alloc_new w5 _)
        have HX1 := Lib.hid (show (((w5.alloc (Obj.cells #[.int .i64 (((i : Int) + 1) % (k : Int)), .int .i64 0, .int .i64 0] 46)).alloc (Obj.cells #[.bool false, .slice (some ⟨w5.heap.size, 0, none⟩) 1 1] 26)).alloc (Obj.cells #[.int .i64 (i : Int), .slice (some ⟨w5.heap.size + 1, 0, none⟩) 1 1] 29)).heap[w5.heap.size + 1]? = some (Obj.cells #[.bool false, .slice (some ⟨w5.heap.size, 0, none⟩) 1 1] 26) from by rw [((below_alloc' (below_refl ((w5.alloc (Obj.cells #[.int .i64 (((i : Int) + 1) % (k : Int)), .int .i64 0, .int .i64 0] 46)).alloc (Obj.cells #[.bool false, .slice (some ⟨w5.heap.size, 0, none⟩) 1 1] 26))) (Obj.cells #[.int .i64 (i : Int), .slice (some ⟨w5.heap.size + 1, 0, none⟩) 1 1] 29))).block (w5.heap.size + 1) (by simp)]; exact heap_alloc2_new w5 _ _)
        have HX2 := Lib.hid (show (((w5.alloc (Obj.cells #[.int .i64 (((i : Int) + 1) % (k : Int)), .int .i64 0, .int .i64 0] 46)).alloc (Obj.cells #[.bool false, .slice (some ⟨w5.heap.size, 0, none⟩) 1 1] 26)).alloc (Obj.cells #[.int .i64 (i : Int), .slice (some ⟨w5.heap.size + 1, 0, none⟩) 1 1] 29)).heap[w5.heap.size + 2]? = some (Obj.cells #[.int .i64 (i : Int), .slice (some ⟨w5.heap.size + 1, 0, none⟩) 1 1] 29) from by have h := heap_alloc_new ((w5.alloc (Obj.cells #[.int .i64 (((i : Int) + 1) % (k : Int)), .int .i64 0, .int .i64 0] 46)).alloc (Obj.cells #[.bool false, .slice (some ⟨w5.heap.size, 0, none⟩) 1 1] 26)) (Obj.cells #[.int .i64 (i : Int), .slice (some ⟨w5.heap.size + 1, 0, none⟩) 1 1] 29); simpa using h)
        have HXB := Lib.hid (show Below w5.heap.size w5 (((w5.alloc (Obj.cells #[.int .i64 (((i : Int) + 1) % (k : Int)), .int .i64 0, .int .i64 0] 46)).alloc (Obj.cells #[.bool false, .slice (some ⟨w5.heap.size, 0, none⟩) 1 1] 26)).alloc (Obj.cells #[.int .i64 (i : Int), .slice (some ⟨w5.heap.size + 1, 0, none⟩) 1 1] 29)) from below_alloc' (below_alloc' (below_alloc' (below_refl w5) _) _) _)
        have lb1 : bg < w5.heap.size + 1 := by omega
        have lb2 : bg < w5.heap.size + 1 + 1 := by omega
        have lb3 : bg < w5.heap.size + 1 + 1 + 1 := by omega
        have c2a : ∀ o, (w5.alloc o).cell? ⟨bg, 2, none⟩ = some (.slice An i kn) := fun o => below_cell (below_alloc' (below_refl w5) o) c2
        have c2b : ∀ o o', ((w5.alloc o).alloc o').cell? ⟨bg, 2, none⟩ = some (.slice An i kn) := fun o o' => below_cell (below_alloc' (below_alloc' (below_refl w5) o) o') c2
        have c2c : ∀ o o' o'', (((w5.alloc o).alloc o').alloc o'').cell? ⟨bg, 2, none⟩ = some (.slice An i kn) := fun o o' o'' => below_cell (below_alloc' (below_alloc' (below_alloc' (below_refl w5) o) o') o'') c2
        clear h0 h1 h2 hn hr hb
        go_upto_region 10 with fail
        --R10
        refine wp_region_last (n := 15) (S := (fun w' => w'.cell? ⟨bg, 0, none⟩ = some (.int .i64 0) ∧ w'.cell? ⟨bg, 2, none⟩ = some (.slice An i kn))) (by kernel_rfl) (by rfl) (by kernel_rfl) rfl ?_ (fun hHeld => ?_)
        · (try dsimp only)
          (first | exact ⟨c0, c2⟩ | exact ⟨m0, m2⟩ | exact ⟨below_cell (w := w5) (by repeat (first | exact below_refl _ | apply below_alloc' | apply below_drew')) c0, below_cell (w := w5) (by repeat (first | exact below_refl _ | apply below_alloc' | apply below_drew')) c2⟩)
        try simp only [List.pop_toArray, List.dropLast_cons_cons, List.dropLast_singleton, List.dropLast]
        refine wpAnyH_take (i := 0) (v := ?_) rfl (by kernel_rfl) (by kernel_rfl) (by kernel_rfl) (fun _ _ _ h => h) (Or.inl ⟨by rfl, ?_⟩) (by assumption) ?_
        rotate_left 1
        · (intro w hSw; (try dsimp only at hSw); (go_simp <;> with_reducible rfl))
        try simp only [Act.put, List.setIfInBounds_toArray, List.set_cons_zero, List.set_cons_succ]
        refine wpAnyH_take (i := 1) (v := ?_) rfl (by kernel_rfl) (by kernel_rfl) (by kernel_rfl) (fun _ _ _ h => h) (Or.inl ⟨by rfl, ?_⟩) (by assumption) ?_
        rotate_left 1
        · (intro w hSw; (try dsimp only at hSw); (go_simp <;> with_reducible rfl))
        try simp only [Act.put, List.setIfInBounds_toArray, List.set_cons_zero, List.set_cons_succ]
        refine wpAnyH_take (i := 2) (v := ?_) rfl (by kernel_rfl) (by kernel_rfl) (by kernel_rfl) (fun _ _ _ h => h) (Or.inl ⟨by rfl, ?_⟩) (by assumption) ?_
        rotate_left 1
        · (intro w hSw; (try dsimp only at hSw); (go_simp <;> with_reducible rfl))
        try simp only [Act.put, List.setIfInBounds_toArray, List.set_cons_zero, List.set_cons_succ]
        refine wpAnyH_take (i := 3) (v := ?_) rfl (by kernel_rfl) (by kernel_rfl) (by kernel_rfl) (fun _ _ _ h => h) (Or.inl ⟨by rfl, ?_⟩) (by assumption) ?_
        rotate_left 1
        · (intro w hSw; (try dsimp only at hSw); (go_simp <;> with_reducible rfl))
        try simp only [Act.put, List.setIfInBounds_toArray, List.set_cons_zero, List.set_cons_succ]
        refine wpAnyH_take (i := 4) (v := ?_) rfl (by kernel_rfl) (by kernel_rfl) (by kernel_rfl) (fun _ _ _ h => h) (Or.inl ⟨by rfl, ?_⟩) (by assumption) ?_
        rotate_left 1
        · (intro w hSw; (try dsimp only at hSw); (go_simp <;> with_reducible rfl))
        try simp only [Act.put, List.setIfInBounds_toArray, List.set_cons_zero, List.set_cons_succ]
        refine wpAnyH_take (i := 5) (v := ?_) rfl (by kernel_rfl) (by kernel_rfl) (by kernel_rfl) (fun _ _ _ h => h) (Or.inl ⟨by rfl, ?_⟩) (by assumption) ?_
        rotate_left 1
        · (intro w hSw; (try dsimp only at hSw); (go_simp <;> with_reducible rfl))
        try simp only [Act.put, List.setIfInBounds_toArray, List.set_cons_zero, List.set_cons_succ]
        refine wpAnyH_ready (rs := [6]) (by kernel_rfl) (by simp) ?_
        refine AllReadyH.cons rfl (fun K hK => ?_) AllReadyH.nil
        try clear hHeld
        go_simp
        go_wp2_with fail
        refine hK.out _ _ ?_ (fun hHeld => ?_)
        · (try dsimp only)
          (first | exact ⟨c0, c2⟩ | exact ⟨m0, m2⟩ | exact ⟨below_cell (w := w5) (by repeat (first | exact below_refl _ | apply below_alloc' | apply below_drew')) c0, below_cell (w := w5) (by repeat (first | exact below_refl _ | apply below_alloc' | apply below_drew')) c2⟩)
        clear hK K
        try simp only [Act.put, List.setIfInBounds_toArray, List.set_cons_zero, List.set_cons_succ]
        refine wpAnyH_take (i := 7) (v := ?_) rfl (by kernel_rfl) (by kernel_rfl) (by kernel_rfl) (fun _ _ _ h => h) (Or.inl ⟨by rfl, ?_⟩) (by assumption) ?_
        rotate_left 1
        · (intro w hSw; (try dsimp only at hSw); (go_simp <;> with_reducible rfl))
        try simp only [Act.put, List.setIfInBounds_toArray, List.set_cons_zero, List.set_cons_succ]
        refine wpAnyH_ready (rs := [8]) (by kernel_rfl) (by simp) ?_
        refine AllReadyH.cons rfl (fun K hK => ?_) AllReadyH.nil
        try clear hHeld
        go_simp
        refine hK.out _ _ ?_ (fun hHeld => ?_)
        · (try dsimp only)
          (first | exact ⟨c0, c2⟩ | exact ⟨m0, m2⟩ | exact ⟨below_cell (w := w5) (by repeat (first | exact below_refl _ | apply below_alloc' | apply below_drew')) c0, below_cell (w := w5) (by repeat (first | exact below_refl _ | apply below_alloc' | apply below_drew')) c2⟩)
        clear hK K
        try simp only [Act.put, List.setIfInBounds_toArray, List.set_cons_zero, List.set_cons_succ]
        refine wpAnyH_take (i := 9) (v := ?_) rfl (by kernel_rfl) (by kernel_rfl) (by kernel_rfl) (fun _ _ _ h => h) (Or.inl ⟨by rfl, ?_⟩) (by assumption) ?_
        rotate_left 1
        · (intro w hSw; (try dsimp only at hSw); (go_simp <;> with_reducible rfl))
        try simp only [Act.put, List.setIfInBounds_toArray, List.set_cons_zero, List.set_cons_succ]
        refine wpAnyH_ready (rs := [10]) (by kernel_rfl) (by simp) ?_
        refine AllReadyH.cons rfl (fun K hK => ?_) AllReadyH.nil
        try clear hHeld
        go_simp
        refine hK.out _ _ ?_ (fun hHeld => ?_)
        · (try dsimp only)
          (first | exact ⟨c0, c2⟩ | exact ⟨m0, m2⟩ | exact ⟨below_cell (w := w5) (by repeat (first | exact below_refl _ | apply below_alloc' | apply below_drew')) c0, below_cell (w := w5) (by repeat (first | exact below_refl _ | apply below_alloc' | apply below_drew')) c2⟩)
        clear hK K
        try simp only [Act.put, List.setIfInBounds_toArray, List.set_cons_zero, List.set_cons_succ]
        refine wpAnyH_take (i := 11) (v := ?_) rfl (by kernel_rfl) (by kernel_rfl) (by kernel_rfl) (fun _ _ _ h => h) (Or.inl ⟨by rfl, ?_⟩) (by assumption) ?_
        rotate_left 1
        · (intro w hSw; (try dsimp only at hSw); (go_simp <;> with_reducible rfl))
        try simp only [Act.put, List.setIfInBounds_toArray, List.set_cons_zero, List.set_cons_succ]
        refine wpAnyH_ready (rs := [12]) (by kernel_rfl) (by simp) ?_
        refine AllReadyH.cons rfl (fun K hK => ?_) AllReadyH.nil
        try clear hHeld
        go_simp
        refine hK.out _ _ ?_ (fun hHeld => ?_)
        · (try dsimp only)
          (first | exact ⟨c0, c2⟩ | exact ⟨m0, m2⟩ | exact ⟨below_cell (w := w5) (by repeat (first | exact below_refl _ | apply below_alloc' | apply below_drew')) c0, below_cell (w := w5) (by repeat (first | exact below_refl _ | apply below_alloc' | apply below_drew')) c2⟩)
        clear hK K
        try simp only [Act.put, List.setIfInBounds_toArray, List.set_cons_zero, List.set_cons_succ]
        refine wpAnyH_ready (rs := [13]) (by kernel_rfl) (by simp) ?_
        refine AllReadyH.cons rfl (fun K hK => ?_) AllReadyH.nil
        try clear hHeld
        ((refine step_append_one (d := tyRd 9 rulRd) (base := bg + 3) (by rfl) _ _ 30 29 _ 32 (by rfl) Try.underlying30 infoRul (by rfl) (by show 0 < 2; decide) (v := .slice An i kn) (xs := rgR k i) (by rfl) (OR.out.below (by repeat (first | exact HXB.out | exact below_refl _ | apply below_alloc' | apply below_drew'))) (rgRul k i) #[.int .i64 (i : Int), .slice (some ⟨w5.heap.size + 1, 0, none⟩) 1 1] (by rw [RGE.out]; exact rul_hy (ps := w5.heap.size) (pc := w5.heap.size + 1) (i := (i : Int)) (s := ((i : Int) + 1) % (k : Int)) (by exact HX0.out) (by exact HX1.out) (by rintro (h | h); (have := blk_lt G2.out; omega); (have := (OR.out.base h).2; omega)) (by rintro (h | h); (have := blk_lt G2.out; omega); (have := (OR.out.base h).2; omega))) (b := w5.heap.size + 2) (c := 1) (by rfl) (by exact HX2.out) (by rw [rgR_len]; omega) (by decide) (by have := blk_lt G2.out; simp; omega) ?_); intro v6 w6 o6 g6 t6; obtain ⟨A6, k6, ev6, -, -, -⟩ := id o6.shape; rw [HL5.out] at ev6; subst ev6; have q6 := blk_grown (blk_below G0.out (by repeat (first | exact HXB.out | exact below_refl _ | apply below_alloc' | apply below_drew'))) g6 (by intro e; have := (OR.out.base e.symm).1; omega); have m0 : w6.cell? ⟨bg, 0, none⟩ = some (.int .i64 0) := blk_cell q6 0; have m2 : w6.cell? ⟨bg, 2, none⟩ = some (.slice An i kn) := blk_cell q6 2; have f2 : w6.frozen? ⟨bg, 2, none⟩ = false := blk_frozen q6 2; have HZ := Lib.hid (rgS_rule HWB.out (blk_below G0.out (by repeat (first | exact HXB.out | exact below_refl _ | apply below_alloc' | apply below_drew'))) (blk_below G1.out (by repeat (first | exact HXB.out | exact below_refl _ | apply below_alloc' | apply below_drew'))) (blk_below G2.out (by repeat (first | exact HXB.out | exact below_refl _ | apply below_alloc' | apply below_drew'))) (ON.out.below (by repeat (first | exact HXB.out | exact below_refl _ | apply below_alloc' | apply below_drew'))) (OR.out.below (by repeat (first | exact HXB.out | exact below_refl _ | apply below_alloc' | apply below_drew'))) (below_then HB.out (by repeat (first | exact HXB.out | exact below_refl _ | apply below_alloc' | apply below_drew'))) o6 g6); clear o6 g6 t6 q6)
        refine hK.out _ _ ?_ (fun hHeld => ?_)
        · (try dsimp only)
          (first | exact ⟨c0, c2⟩ | exact ⟨m0, m2⟩ | exact ⟨below_cell (w := w5) (by repeat (first | exact below_refl _ | apply below_alloc' | apply below_drew')) c0, below_cell (w := w5) (by repeat (first | exact below_refl _ | apply below_alloc' | apply below_drew')) c2⟩)
        clear hK K
        try simp only [Act.put, List.setIfInBounds_toArray, List.set_cons_zero, List.set_cons_succ]
        refine wpAnyH_take (i := 14) (v := ?_) rfl (by kernel_rfl) (by kernel_rfl) (by kernel_rfl) (fun _ _ _ h => h) (Or.inl ⟨by rfl, ?_⟩) (by assumption) ?_
        rotate_left 1
        · (intro w hSw; (try dsimp only at hSw); (go_simp <;> with_reducible rfl))
        try simp only [Act.put, List.setIfInBounds_toArray, List.set_cons_zero, List.set_cons_succ]
        refine wpAnyH_done (by kernel_rfl) ?_ _
        refine lastQ_normal rfl (fun K hK => ?_)
        go_simp
        refine hK.out _ _ ?_
        clear hK K
        try simp only [Act.put, List.setIfInBounds_toArray, List.set_cons_zero, List.set_cons_succ]
        go_wp2_with fail
        go_roundw
        case rel =>
          have hz : Rl1 w bg k (.int .i64 ((i : Int) + 1)) _ := ⟨i + 1, by go_num, by omega, HZ.out⟩
          first
            | exact hz
            | exact ⟨i + 1, by go_num, by omega, rgS_below HZ.out (below_drew' (below_refl _))⟩
            | ((repeat apply Exists.intro); exact ⟨hz, rfl⟩)
            | ((repeat apply Exists.intro); exact ⟨⟨i + 1, by go_num, by omega, rgS_below HZ.out (below_drew' (below_refl _))⟩, rfl⟩)
        case measure => simp [intOf]; omega
        --E10
    · have hie : i = k := by omega
      have HST := Lib.hid (show RgS w bg k k k wr from by have h := hst; rw [hie] at h; exact h)
      clear hst hie
      obtain ⟨r, hr, hr0, hr1⟩ : ∃ r : Int, bits BinOp.and .i64 rank 1023 = r ∧ 0 ≤ r ∧ r ≤ 1023 := by
        have h := and_smallZ rank (m := 1023) (by omega)
        simp only [Int.cast_ofNat_Int] at h
        exact ⟨_, rfl, h.1, h.2⟩
      obtain ⟨w4, hw4⟩ : ∃ w4, w4 = wr := ⟨_, rfl⟩
      rw [← hw4] at HST ⊢
      clear hw4
      go_upto_region 12 with fail
      have R0 := Lib.hid (show Rg2 w4 bg k r 0 0 w4 from by
        obtain ⟨vn, vr, h0, h1, h2, -⟩ := HST.out
        exact ⟨_, _, h1, h2, Own.nil _ _ _ _, Own.nil _ _ _ _, fun b hb => by simp [Value.ownBlock] at hb, Upd.refl _ _⟩)
      have HBS := Lib.hid (show bg + 3 ≤ w4.heap.size from by
        obtain ⟨vn, vr, h0, h1, h2, -⟩ := HST.out
        have := blk_lt h2
        omega)
      go_loopw [10] (fun cnt wr => Rl2 w4 bg k r cnt wr) (fun cnt _ => k - (intOf cnt).toNat)
      case atStart => exact ⟨0, rfl, Nat.zero_le _, R0.out⟩
      case round =>
        clear R0
        obtain ⟨i, rfl, hi, hst⟩ := hrel
        by_cases hlt : i < k
        · have hii : (i : Int) < (k : Int) := by omega
          have hk0 : ((k : Int) == 0) = false := by simp; omega
          have hk0' : ((k : Int) = 0) = False := eq_false (by omega)
          go_upto_region 17 with fail
          obtain ⟨vi, vo, h1, h2, hI, hO, hne, hu⟩ := hst
          obtain ⟨Ai, ki, rfl, -, -, -⟩ := id hI.shape
          rw [rgIn_len] at h1 hI hne
          have hp0 := heap_alloc2_old wr (plO i 0) (plO i 1)
          have hp1 := heap_alloc2_new wr (plO i 0) (plO i 1)
          have hbq : Below wr.heap.size wr ((wr.alloc (plO i 0)).alloc (plO i 1)) := below_alloc' (below_alloc' (below_refl wr) _) _
          change Code.wp _ _ _ _ ((wr.alloc (plO i 0)).alloc (plO i 1))
          have hws := hu.size
          obtain ⟨pb, hpb⟩ : ∃ pb, pb = wr.heap.size := ⟨_, rfl⟩
          have hpI : ∀ b, (Value.slice Ai (3 * i) ki).ownBlock = some b → b < pb := fun b hb => by rw [hpb]; exact (hI.base hb).2
          rw [← hpb] at hp0 hp1 ⊢
          generalize (wr.alloc (plO i 0)).alloc (plO i 1) = wq at hp0 hp1 hbq ⊢
          have C1 := Lib.hid (blk_below h1 hbq)
          have C2 := Lib.hid (blk_below h2 hbq)
          have OI := Lib.hid (hI.below hbq)
          have OO := Lib.hid (hO.below hbq)
          have HNE := Lib.hid hne
          have HU := Lib.hid (hu.trans (Upd.of_below hbq))
          have HP0 := Lib.hid hp0
          have HP1 := Lib.hid hp1
          have HSZ := Lib.hid (show w4.heap.size ≤ wq.heap.size from Nat.le_trans hws hbq.size)
          have HPW := Lib.hid (show w4.heap.size ≤ pb by rw [hpb]; exact hws)
          have HSQ := Lib.hid (show ∀ p, wq.heap.size ≤ p → ¬ (p < w4.heap.size ∨ (Value.slice Ai (3 * i) ki).ownBlock = some p) from fun p hp => by
            rintro (h | h)
            · have := HSZ.out; omega
            · have := (OI.out.base h).2; omega)
          have HPG := Lib.hid (show ∀ (W w6 : World), Below wq.heap.size wq W → W.grownBy w6 (Value.slice Ai (3 * i) ki).ownBlock → w6.heap[pb]? = some (plO i 0) ∧ w6.heap[pb + 1]? = some (plO i 1) from fun W w6 hW hg =>
            ⟨blk_grown (blk_below HP0.out hW) hg (fun e => by have := hpI pb e.symm; omega), blk_grown (blk_below HP1.out hW) hg (fun e => by have := hpI (pb + 1) e.symm; omega)⟩)
          have RIS := Lib.hid (show rgIn k r (i + 1) = rgIn k r i ++ [rgA k r i, rgB' k r i, rgC i] by rw [rgIn_succ, rgB_eq])
          have ROS := Lib.hid (show rgOut k (i + 1) = rgOut k i ++ [rgD i, rgE' k i] by rw [rgOut_succ, rgE_eq])
          have HLI := Lib.hid (show (rgIn k r i ++ [rgA k r i, rgB' k r i, rgC i]).length = 3 * i + 3 by simp [rgIn_len])
          have c1 : wq.cell? ⟨bg + 1, 1, none⟩ = some (.slice Ai (3 * i) ki) := blk_cell C1.out 1
          have c10 : wq.cell? ⟨bg + 1, 0, none⟩ = some (.int .i64 0) := blk_cell C1.out 0
          have lb : bg + 1 < wq.heap.size := blk_lt C1.out
          have c1f : ∀ wz, Below wq.heap.size wq wz → wz.cell? ⟨bg + 1, 1, none⟩ = some (.slice Ai (3 * i) ki) := fun wz hz => below_cell hz c1
          have c1a : ∀ o, (wq.alloc o).cell? ⟨bg + 1, 1, none⟩ = some (.slice Ai (3 * i) ki) := fun o => c1f _ (below_alloc' (below_refl wq) o)
          have c1b : ∀ o o', ((wq.alloc o).alloc o').cell? ⟨bg + 1, 1, none⟩ = some (.slice Ai (3 * i) ki) := fun o o' => c1f _ (below_alloc' (below_alloc' (below_refl wq) o) o')
          have c1c : ∀ o o' o2, (((wq.alloc o).alloc o').alloc o2).cell? ⟨bg + 1, 1, none⟩ = some (.slice Ai (3 * i) ki) := fun o o' o2 => c1f _ (below_alloc' (below_alloc' (below_alloc' (below_refl wq) o) o') o2)
          have c1d : ∀ o o' o2 o3, ((((wq.alloc o).alloc o').alloc o2).alloc o3).cell? ⟨bg + 1, 1, none⟩ = some (.slice Ai (3 * i) ki) := fun o o' o2 o3 => c1f _ (below_alloc' (below_alloc' (below_alloc' (below_alloc' (below_refl wq) o) o') o2) o3)
          have c1e : ∀ o o' o2 o3 o4, (((((wq.alloc o).alloc o').alloc o2).alloc o3).alloc o4).cell? ⟨bg + 1, 1, none⟩ = some (.slice Ai (3 * i) ki) := fun o o' o2 o3 o4 => c1f _ (below_alloc' (below_alloc' (below_alloc' (below_alloc' (below_alloc' (below_refl wq) o) o') o2) o3) o4)
          have kS : ∀ wz : World, wz.heap[pb]? = some (plO i 0) → wz.heap[pb + 1]? = some (plO i 1) → wz.cell? ⟨pb, 0, none⟩ = some (.int .i64 i) ∧ wz.cell? ⟨pb, 1, none⟩ = some (.int .i64 0) ∧ wz.cell? ⟨pb, 2, none⟩ = some (.int .i64 0) ∧ wz.cell? ⟨pb + 1, 0, none⟩ = some (.int .i64 i) ∧ wz.cell? ⟨pb + 1, 1, none⟩ = some (.int .i64 0) ∧ wz.cell? ⟨pb + 1, 2, none⟩ = some (.int .i64 1) := fun wz h h' => ⟨blk_cell h 0, blk_cell h 1, blk_cell h 2, blk_cell h' 0, blk_cell h' 1, blk_cell h' 2⟩
          have hpbg : bg + 3 ≤ pb := Nat.le_trans HBS.out HPW.out
          clear h1 h2 hI hO hne hu hp0 hp1 hbq hws hpb c1f
          go_cut [10] (fun s10 wx => s10 = .int .i64 i ∧ Rg2 w4 bg k r (i + 1) i wx ∧ wx.heap[pb]? = some (plO i 0))
          case first =>
            --R17
            have hk0n : (k = 0) = False := eq_false (by omega)
            have hme := Int.emod_nonneg ((i : Int) + 1) (show (k : Int) ≠ 0 by omega)
            have hml := Int.emod_lt_of_pos ((i : Int) + 1) (show (0 : Int) < (k : Int) by omega)
            have hw1 : IntKind.i64.wrap (3 * (i : Int)) = 3 * (i : Int) := IntWalk.i64_in _ (by omega)
            have hw2 : IntKind.i64.wrap (3 * (i : Int) + 1) = 3 * (i : Int) + 1 := IntWalk.i64_in _ (by omega)
            have hw3 : IntKind.i64.wrap ((i : Int) + 1) = (i : Int) + 1 := IntWalk.i64_in _ (by omega)
            have hw4 : ((i : Int) + 1).tmod (k : Int) = ((i : Int) + 1) % (k : Int) := Int.tmod_eq_emod_of_nonneg (by omega)
            have hw5 : IntKind.i64.wrap (3 * (((i : Int) + 1) % (k : Int))) = 3 * (((i : Int) + 1) % (k : Int)) := IntWalk.i64_in _ (by omega)
            have hw6 : IntKind.i64.wrap (3 * (i : Int) + 2) = 3 * (i : Int) + 2 := IntWalk.i64_in _ (by omega)
            have hw7 : IntKind.i64.wrap (3 * ((k : Int) - i) + r + 3) = 3 * ((k : Int) - i) + r + 3 := IntWalk.i64_in _ (by omega)
            have hw8 : IntKind.i64.wrap (3 * ((k : Int) - i) + r + 2) = 3 * ((k : Int) - i) + r + 2 := IntWalk.i64_in _ (by omega)
            clear hme hml
            refine wp_region_last (n := 33) (S := (fun w' => (w'.cell? ⟨pb, 0, none⟩ = some (.int .i64 i) ∧ w'.cell? ⟨pb, 1, none⟩ = some (.int .i64 0) ∧ w'.cell? ⟨pb, 2, none⟩ = some (.int .i64 0) ∧ w'.cell? ⟨pb + 1, 0, none⟩ = some (.int .i64 i) ∧ w'.cell? ⟨pb + 1, 1, none⟩ = some (.int .i64 0) ∧ w'.cell? ⟨pb + 1, 2, none⟩ = some (.int .i64 1)) ∧ w'.cell? ⟨bg + 1, 1, none⟩ = some (.slice Ai (3 * i) ki))) (by kernel_rfl) (by rfl) (by kernel_rfl) rfl ?_ (fun hHeld => ?_)
            · (try dsimp only)
              (first | exact ⟨kS _ HPL.out.1 HPL.out.2, m1⟩ | exact ⟨kS _ (blk_below HP0.out (by repeat (first | exact below_refl _ | apply below_alloc' | apply below_drew'))) (blk_below HP1.out (by repeat (first | exact below_refl _ | apply below_alloc' | apply below_drew'))), below_cell (w := wq) (by repeat (first | exact below_refl _ | apply below_alloc' | apply below_drew')) c1⟩)
            try simp only [List.pop_toArray, List.dropLast_cons_cons, List.dropLast_singleton, List.dropLast]
            refine wpAnyH_take (i := 0) (v := ?_) rfl (by kernel_rfl) (by kernel_rfl) (by kernel_rfl) (fun _ _ _ h => h) (Or.inl ⟨by rfl, ?_⟩) (by assumption) ?_
            rotate_left 1
            · (intro w hSw; (try dsimp only at hSw); (go_simp <;> with_reducible rfl))
            try simp only [Act.put, List.setIfInBounds_toArray, List.set_cons_zero, List.set_cons_succ]
            refine wpAnyH_take (i := 1) (v := ?_) rfl (by kernel_rfl) (by kernel_rfl) (by kernel_rfl) (fun _ _ _ h => h) (Or.inl ⟨by rfl, ?_⟩) (by assumption) ?_
            rotate_left 1
            · (intro w hSw; (try dsimp only at hSw); (go_simp <;> with_reducible rfl))
            try simp only [Act.put, List.setIfInBounds_toArray, List.set_cons_zero, List.set_cons_succ]
            refine wpAnyH_take (i := 2) (v := ?_) rfl (by kernel_rfl) (by kernel_rfl) (by kernel_rfl) (fun _ _ _ h => h) (Or.inl ⟨by rfl, ?_⟩) (by assumption) ?_
            rotate_left 1
            · (intro w hSw; (try dsimp only at hSw); (go_simp <;> with_reducible rfl))
            try simp only [Act.put, List.setIfInBounds_toArray, List.set_cons_zero, List.set_cons_succ]
            refine wpAnyH_take (i := 3) (v := ?_) rfl (by kernel_rfl) (by kernel_rfl) (by kernel_rfl) (fun _ _ _ h => h) (Or.inl ⟨by rfl, ?_⟩) (by assumption) ?_
            rotate_left 1
            · (intro w hSw; (try dsimp only at hSw); (go_simp <;> with_reducible rfl))
            try simp only [Act.put, List.setIfInBounds_toArray, List.set_cons_zero, List.set_cons_succ]
            refine wpAnyH_take (i := 4) (v := ?_) rfl (by kernel_rfl) (by kernel_rfl) (by kernel_rfl) (fun _ _ _ h => h) (Or.inl ⟨by rfl, ?_⟩) (by assumption) ?_
            rotate_left 1
            · (intro w hSw; (try dsimp only at hSw); (go_simp <;> with_reducible rfl))
            try simp only [Act.put, List.setIfInBounds_toArray, List.set_cons_zero, List.set_cons_succ]
            refine wpAnyH_take (i := 5) (v := ?_) rfl (by kernel_rfl) (by kernel_rfl) (by kernel_rfl) (fun _ _ _ h => h) (Or.inl ⟨by rfl, ?_⟩) (by assumption) ?_
            rotate_left 1
            · (intro w hSw; (try dsimp only at hSw); (go_simp <;> with_reducible rfl))
            try simp only [Act.put, List.setIfInBounds_toArray, List.set_cons_zero, List.set_cons_succ]
            refine wpAnyH_take (i := 6) (v := ?_) rfl (by kernel_rfl) (by kernel_rfl) (by kernel_rfl) (fun _ _ _ h => h) (Or.inl ⟨by rfl, ?_⟩) (by assumption) ?_
            rotate_left 1
            · (intro w hSw; (try dsimp only at hSw); (go_simp <;> with_reducible rfl))
            try simp only [Act.put, List.setIfInBounds_toArray, List.set_cons_zero, List.set_cons_succ]
            refine wpAnyH_take (i := 7) (v := ?_) rfl (by kernel_rfl) (by kernel_rfl) (by kernel_rfl) (fun _ _ _ h => h) (Or.inl ⟨by rfl, ?_⟩) (by assumption) ?_
            rotate_left 1
            · (intro w hSw; (try dsimp only at hSw); (go_simp <;> with_reducible rfl))
            try simp only [Act.put, List.setIfInBounds_toArray, List.set_cons_zero, List.set_cons_succ]
            refine wpAnyH_take (i := 8) (v := ?_) rfl (by kernel_rfl) (by kernel_rfl) (by kernel_rfl) (fun _ _ _ h => h) (Or.inl ⟨by rfl, ?_⟩) (by assumption) ?_
            rotate_left 1
            · (intro w hSw; (try dsimp only at hSw); (go_simp <;> with_reducible rfl))
            try simp only [Act.put, List.setIfInBounds_toArray, List.set_cons_zero, List.set_cons_succ]
            refine wpAnyH_take (i := 13) (v := ?_) rfl (by kernel_rfl) (by kernel_rfl) (by kernel_rfl) (fun _ _ _ h => h) (Or.inl ⟨by rfl, ?_⟩) (by assumption) ?_
            rotate_left 1
            · (intro w hSw; (try dsimp only at hSw); (go_simp <;> with_reducible rfl))
            try simp only [Act.put, List.setIfInBounds_toArray, List.set_cons_zero, List.set_cons_succ]
            refine wpAnyH_take (i := 14) (v := ?_) rfl (by kernel_rfl) (by kernel_rfl) (by kernel_rfl) (fun _ _ _ h => h) (Or.inl ⟨by rfl, ?_⟩) (by assumption) ?_
            rotate_left 1
            · (intro w hSw; (try dsimp only at hSw); (go_simp <;> with_reducible rfl))
            try simp only [Act.put, List.setIfInBounds_toArray, List.set_cons_zero, List.set_cons_succ]
            refine wpAnyH_take (i := 15) (v := ?_) rfl (by kernel_rfl) (by kernel_rfl) (by kernel_rfl) (fun _ _ _ h => h) (Or.inl ⟨by rfl, ?_⟩) (by assumption) ?_
            rotate_left 1
            · (intro w hSw; (try dsimp only at hSw); (go_simp <;> with_reducible rfl))
            try simp only [Act.put, List.setIfInBounds_toArray, List.set_cons_zero, List.set_cons_succ]
            refine wpAnyH_take (i := 16) (v := ?_) rfl (by kernel_rfl) (by kernel_rfl) (by kernel_rfl) (fun _ _ _ h => h) (Or.inl ⟨by rfl, ?_⟩) (by assumption) ?_
            rotate_left 1
            · (intro w hSw; (try dsimp only at hSw); (go_simp <;> with_reducible rfl))
            try simp only [Act.put, List.setIfInBounds_toArray, List.set_cons_zero, List.set_cons_succ]
            refine wpAnyH_take (i := 17) (v := ?_) rfl (by kernel_rfl) (by kernel_rfl) (by kernel_rfl) (fun _ _ _ h => h) (Or.inl ⟨by rfl, ?_⟩) (by assumption) ?_
            rotate_left 1
            · (intro w hSw; (try dsimp only at hSw); (go_simp <;> with_reducible rfl))
            try simp only [Act.put, List.setIfInBounds_toArray, List.set_cons_zero, List.set_cons_succ]
            refine wpAnyH_take (i := 18) (v := ?_) rfl (by kernel_rfl) (by kernel_rfl) (by kernel_rfl) (fun _ _ _ h => h) (Or.inl ⟨by rfl, ?_⟩) (by assumption) ?_
            rotate_left 1
            · (intro w hSw; (try dsimp only at hSw); (go_simp <;> with_reducible rfl))
            try simp only [Act.put, List.setIfInBounds_toArray, List.set_cons_zero, List.set_cons_succ]
            refine wpAnyH_take (i := 19) (v := ?_) rfl (by kernel_rfl) (by kernel_rfl) (by kernel_rfl) (fun _ _ _ h => h) (Or.inl ⟨by rfl, ?_⟩) (by assumption) ?_
            rotate_left 1
            · (intro w hSw; (try dsimp only at hSw); (go_simp <;> with_reducible rfl))
            try simp only [Act.put, List.setIfInBounds_toArray, List.set_cons_zero, List.set_cons_succ]
            refine wpAnyH_take (i := 20) (v := ?_) rfl (by kernel_rfl) (by kernel_rfl) (by kernel_rfl) (fun _ _ _ h => h) (Or.inl ⟨by rfl, ?_⟩) (by assumption) ?_
            rotate_left 1
            · (intro w hSw; (try dsimp only at hSw); (go_simp <;> with_reducible rfl))
            try simp only [Act.put, List.setIfInBounds_toArray, List.set_cons_zero, List.set_cons_succ]
            refine wpAnyH_take (i := 21) (v := ?_) rfl (by kernel_rfl) (by kernel_rfl) (by kernel_rfl) (fun _ _ _ h => h) (Or.inl ⟨by rfl, ?_⟩) (by assumption) ?_
            rotate_left 1
            · (intro w hSw; (try dsimp only at hSw); (go_simp <;> with_reducible rfl))
            try simp only [Act.put, List.setIfInBounds_toArray, List.set_cons_zero, List.set_cons_succ]
            refine wpAnyH_take (i := 22) (v := ?_) rfl (by kernel_rfl) (by kernel_rfl) (by kernel_rfl) (fun _ _ _ h => h) (Or.inl ⟨by rfl, ?_⟩) (by assumption) ?_
            rotate_left 1
            · (intro w hSw; (try dsimp only at hSw); (go_simp <;> with_reducible rfl))
            try simp only [Act.put, List.setIfInBounds_toArray, List.set_cons_zero, List.set_cons_succ]
            refine wpAnyH_take (i := 23) (v := ?_) rfl (by kernel_rfl) (by kernel_rfl) (by kernel_rfl) (fun _ _ _ h => h) (Or.inl ⟨by rfl, ?_⟩) (by assumption) ?_
            rotate_left 1
            · (intro w hSw; (try dsimp only at hSw); (go_simp <;> with_reducible rfl))
            try simp only [Act.put, List.setIfInBounds_toArray, List.set_cons_zero, List.set_cons_succ]
            refine wpAnyH_take (i := 28) (v := ?_) rfl (by kernel_rfl) (by kernel_rfl) (by kernel_rfl) (fun _ _ _ h => h) (Or.inl ⟨by rfl, ?_⟩) (by assumption) ?_
            rotate_left 1
            · (intro w hSw; (try dsimp only at hSw); (go_simp <;> with_reducible rfl))
            try simp only [Act.put, List.setIfInBounds_toArray, List.set_cons_zero, List.set_cons_succ]
            refine wpAnyH_take (i := 29) (v := ?_) rfl (by kernel_rfl) (by kernel_rfl) (by kernel_rfl) (fun _ _ _ h => h) (Or.inl ⟨by rfl, ?_⟩) (by assumption) ?_
            rotate_left 1
            · (intro w hSw; (try dsimp only at hSw); (go_simp <;> with_reducible rfl))
            try simp only [Act.put, List.setIfInBounds_toArray, List.set_cons_zero, List.set_cons_succ]
            refine wpAnyH_ready (rs := [9, 24]) (by kernel_rfl) (by simp) ?_
            refine AllReadyH.cons rfl (fun K hK => ?_) (AllReadyH.cons rfl (fun K hK => ?_) AllReadyH.nil)
            ·
              try clear hHeld
              go_simp
              refine hK.out _ _ ?_ (fun hHeld => ?_)
              · (try dsimp only)
                (first | exact ⟨kS _ HPL.out.1 HPL.out.2, m1⟩ | exact ⟨kS _ (blk_below HP0.out (by repeat (first | exact below_refl _ | apply below_alloc' | apply below_drew'))) (blk_below HP1.out (by repeat (first | exact below_refl _ | apply below_alloc' | apply below_drew'))), below_cell (w := wq) (by repeat (first | exact below_refl _ | apply below_alloc' | apply below_drew')) c1⟩)
              clear hK K
              try simp only [Act.put, List.setIfInBounds_toArray, List.set_cons_zero, List.set_cons_succ]
              refine wpAnyH_take (i := 10) (v := ?_) rfl (by kernel_rfl) (by kernel_rfl) (by kernel_rfl) (fun _ _ _ h => h) (Or.inl ⟨by rfl, ?_⟩) (by assumption) ?_
              rotate_left 1
              · (intro w hSw; (try dsimp only at hSw); (go_simp <;> with_reducible rfl))
              try simp only [Act.put, List.setIfInBounds_toArray, List.set_cons_zero, List.set_cons_succ]
              refine wpAnyH_ready (rs := [11, 24]) (by kernel_rfl) (by simp) ?_
              refine AllReadyH.cons rfl (fun K hK => ?_) (AllReadyH.cons rfl (fun K hK => ?_) AllReadyH.nil)
              ·
                try clear hHeld
                go_simp
                refine hK.out _ _ ?_ (fun hHeld => ?_)
                · (try dsimp only)
                  (first | exact ⟨kS _ HPL.out.1 HPL.out.2, m1⟩ | exact ⟨kS _ (blk_below HP0.out (by repeat (first | exact below_refl _ | apply below_alloc' | apply below_drew'))) (blk_below HP1.out (by repeat (first | exact below_refl _ | apply below_alloc' | apply below_drew'))), below_cell (w := wq) (by repeat (first | exact below_refl _ | apply below_alloc' | apply below_drew')) c1⟩)
                clear hK K
                try simp only [Act.put, List.setIfInBounds_toArray, List.set_cons_zero, List.set_cons_succ]
                refine wpAnyH_take (i := 12) (v := ?_) rfl (by kernel_rfl) (by kernel_rfl) (by kernel_rfl) (fun _ _ _ h => h) (Or.inl ⟨by rfl, ?_⟩) (by assumption) ?_
                rotate_left 1
                · (intro w hSw; (try dsimp only at hSw); (go_simp <;> with_reducible rfl))
                try simp only [Act.put, List.setIfInBounds_toArray, List.set_cons_zero, List.set_cons_succ]
                refine wpAnyH_ready (rs := [24]) (by kernel_rfl) (by simp) ?_
                refine AllReadyH.cons rfl (fun K hK => ?_) AllReadyH.nil
                try clear hHeld
                go_simp
                refine hK.out _ _ ?_ (fun hHeld => ?_)
                · (try dsimp only)
                  (first | exact ⟨kS _ HPL.out.1 HPL.out.2, m1⟩ | exact ⟨kS _ (blk_below HP0.out (by repeat (first | exact below_refl _ | apply below_alloc' | apply below_drew'))) (blk_below HP1.out (by repeat (first | exact below_refl _ | apply below_alloc' | apply below_drew'))), below_cell (w := wq) (by repeat (first | exact below_refl _ | apply below_alloc' | apply below_drew')) c1⟩)
                clear hK K
                try simp only [Act.put, List.setIfInBounds_toArray, List.set_cons_zero, List.set_cons_succ]
                refine wpAnyH_take (i := 25) (v := ?_) rfl (by kernel_rfl) (by kernel_rfl) (by kernel_rfl) (fun _ _ _ h => h) (Or.inl ⟨by rfl, ?_⟩) (by assumption) ?_
                rotate_left 1
                · (intro w hSw; (try dsimp only at hSw); (go_simp <;> with_reducible rfl))
                try simp only [Act.put, List.setIfInBounds_toArray, List.set_cons_zero, List.set_cons_succ]
                refine wpAnyH_ready (rs := [26]) (by kernel_rfl) (by simp) ?_
                refine AllReadyH.cons rfl (fun K hK => ?_) AllReadyH.nil
                try clear hHeld
                go_simp
                refine hK.out _ _ ?_ (fun hHeld => ?_)
                · (try dsimp only)
                  (first | exact ⟨kS _ HPL.out.1 HPL.out.2, m1⟩ | exact ⟨kS _ (blk_below HP0.out (by repeat (first | exact below_refl _ | apply below_alloc' | apply below_drew'))) (blk_below HP1.out (by repeat (first | exact below_refl _ | apply below_alloc' | apply below_drew'))), below_cell (w := wq) (by repeat (first | exact below_refl _ | apply below_alloc' | apply below_drew')) c1⟩)
                clear hK K
                try simp only [Act.put, List.setIfInBounds_toArray, List.set_cons_zero, List.set_cons_succ]
                refine wpAnyH_take (i := 27) (v := ?_) rfl (by kernel_rfl) (by kernel_rfl) (by kernel_rfl) (fun _ _ _ h => h) (Or.inl ⟨by rfl, ?_⟩) (by assumption) ?_
                rotate_left 1
                · (intro w hSw; (try dsimp only at hSw); (go_simp <;> with_reducible rfl))
                try simp only [Act.put, List.setIfInBounds_toArray, List.set_cons_zero, List.set_cons_succ]
                refine wpAnyH_ready (rs := [30]) (by kernel_rfl) (by simp) ?_
                refine AllReadyH.cons rfl (fun K hK => ?_) AllReadyH.nil
                try clear hHeld
                go_simp
                refine hK.out _ _ ?_ (fun hHeld => ?_)
                · (try dsimp only)
                  (first | exact ⟨kS _ HPL.out.1 HPL.out.2, m1⟩ | exact ⟨kS _ (blk_below HP0.out (by repeat (first | exact below_refl _ | apply below_alloc' | apply below_drew'))) (blk_below HP1.out (by repeat (first | exact below_refl _ | apply below_alloc' | apply below_drew'))), below_cell (w := wq) (by repeat (first | exact below_refl _ | apply below_alloc' | apply below_drew')) c1⟩)
                clear hK K
                try simp only [Act.put, List.setIfInBounds_toArray, List.set_cons_zero, List.set_cons_succ]
                refine wpAnyH_ready (rs := [31]) (by kernel_rfl) (by simp) ?_
                refine AllReadyH.cons rfl (fun K hK => ?_) AllReadyH.nil
                try clear hHeld
                ((refine step_append_list (d := NR) (base := w4.heap.size) (by rfl) _ _ 38 37 _ 96 (by rfl) Try.underlying38 infoNd (by rfl) (by show 0 < 10; decide) (v := (.slice Ai (3 * i) ki)) (xs := (rgIn k r i)) (by rfl) (OI.out.below (by repeat (first | exact below_refl _ | apply below_alloc' | apply below_drew'))) [rgA k r i, rgB' k r i, rgC i] [nodCs (rgA k r i) (.slice (some ⟨wq.heap.size + 1, 0, none⟩) 1 1), nodCs (rgB' k r i) (.slice (some ⟨wq.heap.size + 3, 0, none⟩) 1 1), nodCs (rgC i) (.slice none 0 0)] rfl (hy3 (nodT_hy (x := rgA k r i) (sp := (i : Int)) (cj := 0) (kids := [3 * (i : Int) + 1]) (n := 1) (p := wq.heap.size + 0) (q := wq.heap.size + 1) (arr := #[.int .i64 (3 * (i : Int) + 1)]) rfl rfl (by decide) (by exact al5_0 wq (Obj.cells #[.int .i64 (3 * (i : Int) + 1)] 3) (Obj.cells #[.int .i64 (i : Int), .int .i64 0, .slice (some ⟨wq.heap.size + 0, 0, none⟩) 1 1] 51) (Obj.cells #[.int .i64 (3 * (((i : Int) + 1) % (k : Int))), .int .i64 (3 * (i : Int) + 2)] 3) (Obj.cells #[.int .i64 0, .int .i64 0, .slice (some ⟨wq.heap.size + 2, 0, none⟩) 2 2] 51) (Obj.cells #[.bool true, .int .i64 0, .int .i64 (i : Int), .int .i64 0, .int .i64 0, .int .i64 0, .int .i64 0, .int .i64 0, .int .i64 (3 * ((k : Int) - i) + r + 3), .slice (some ⟨wq.heap.size + 1, 0, none⟩) 1 1, .bool true, .int .i64 1, .int .i64 0, .int .i64 (i : Int), .int .i64 0, .int .i64 0, .int .i64 0, .int .i64 0, .int .i64 (3 * ((k : Int) - i) + r + 2), .slice (some ⟨wq.heap.size + 3, 0, none⟩) 1 1, .bool true, .int .i64 1, .int .i64 0, .int .i64 (i : Int), .int .i64 0, .int .i64 1, .int .i64 0, .int .i64 0, .int .i64 1, .slice none 0 0] 37)) rfl (by exact al5_1 wq (Obj.cells #[.int .i64 (3 * (i : Int) + 1)] 3) (Obj.cells #[.int .i64 (i : Int), .int .i64 0, .slice (some ⟨wq.heap.size + 0, 0, none⟩) 1 1] 51) (Obj.cells #[.int .i64 (3 * (((i : Int) + 1) % (k : Int))), .int .i64 (3 * (i : Int) + 2)] 3) (Obj.cells #[.int .i64 0, .int .i64 0, .slice (some ⟨wq.heap.size + 2, 0, none⟩) 2 2] 51) (Obj.cells #[.bool true, .int .i64 0, .int .i64 (i : Int), .int .i64 0, .int .i64 0, .int .i64 0, .int .i64 0, .int .i64 0, .int .i64 (3 * ((k : Int) - i) + r + 3), .slice (some ⟨wq.heap.size + 1, 0, none⟩) 1 1, .bool true, .int .i64 1, .int .i64 0, .int .i64 (i : Int), .int .i64 0, .int .i64 0, .int .i64 0, .int .i64 0, .int .i64 (3 * ((k : Int) - i) + r + 2), .slice (some ⟨wq.heap.size + 3, 0, none⟩) 1 1, .bool true, .int .i64 1, .int .i64 0, .int .i64 (i : Int), .int .i64 0, .int .i64 1, .int .i64 0, .int .i64 0, .int .i64 1, .slice none 0 0] 37)) (HSQ.out _ (by omega)) (HSQ.out _ (by omega))) (nodT_hy (x := rgB' k r i) (sp := 0) (cj := 0) (kids := [3 * (((i : Int) + 1) % (k : Int)), 3 * (i : Int) + 2]) (n := 2) (p := wq.heap.size + 2) (q := wq.heap.size + 3) (arr := #[.int .i64 (3 * (((i : Int) + 1) % (k : Int))), .int .i64 (3 * (i : Int) + 2)]) rfl rfl (by decide) (by exact al5_2 wq (Obj.cells #[.int .i64 (3 * (i : Int) + 1)] 3) (Obj.cells #[.int .i64 (i : Int), .int .i64 0, .slice (some ⟨wq.heap.size + 0, 0, none⟩) 1 1] 51) (Obj.cells #[.int .i64 (3 * (((i : Int) + 1) % (k : Int))), .int .i64 (3 * (i : Int) + 2)] 3) (Obj.cells #[.int .i64 0, .int .i64 0, .slice (some ⟨wq.heap.size + 2, 0, none⟩) 2 2] 51) (Obj.cells #[.bool true, .int .i64 0, .int .i64 (i : Int), .int .i64 0, .int .i64 0, .int .i64 0, .int .i64 0, .int .i64 0, .int .i64 (3 * ((k : Int) - i) + r + 3), .slice (some ⟨wq.heap.size + 1, 0, none⟩) 1 1, .bool true, .int .i64 1, .int .i64 0, .int .i64 (i : Int), .int .i64 0, .int .i64 0, .int .i64 0, .int .i64 0, .int .i64 (3 * ((k : Int) - i) + r + 2), .slice (some ⟨wq.heap.size + 3, 0, none⟩) 1 1, .bool true, .int .i64 1, .int .i64 0, .int .i64 (i : Int), .int .i64 0, .int .i64 1, .int .i64 0, .int .i64 0, .int .i64 1, .slice none 0 0] 37)) rfl (by exact al5_3 wq (Obj.cells #[.int .i64 (3 * (i : Int) + 1)] 3) (Obj.cells #[.int .i64 (i : Int), .int .i64 0, .slice (some ⟨wq.heap.size + 0, 0, none⟩) 1 1] 51) (Obj.cells #[.int .i64 (3 * (((i : Int) + 1) % (k : Int))), .int .i64 (3 * (i : Int) + 2)] 3) (Obj.cells #[.int .i64 0, .int .i64 0, .slice (some ⟨wq.heap.size + 2, 0, none⟩) 2 2] 51) (Obj.cells #[.bool true, .int .i64 0, .int .i64 (i : Int), .int .i64 0, .int .i64 0, .int .i64 0, .int .i64 0, .int .i64 0, .int .i64 (3 * ((k : Int) - i) + r + 3), .slice (some ⟨wq.heap.size + 1, 0, none⟩) 1 1, .bool true, .int .i64 1, .int .i64 0, .int .i64 (i : Int), .int .i64 0, .int .i64 0, .int .i64 0, .int .i64 0, .int .i64 (3 * ((k : Int) - i) + r + 2), .slice (some ⟨wq.heap.size + 3, 0, none⟩) 1 1, .bool true, .int .i64 1, .int .i64 0, .int .i64 (i : Int), .int .i64 0, .int .i64 1, .int .i64 0, .int .i64 0, .int .i64 1, .slice none 0 0] 37)) (HSQ.out _ (by omega)) (HSQ.out _ (by omega))) (nodT_hy0 rfl)) (b := wq.heap.size + 4) (arr := #[.bool true, .int .i64 0, .int .i64 (i : Int), .int .i64 0, .int .i64 0, .int .i64 0, .int .i64 0, .int .i64 0, .int .i64 (3 * ((k : Int) - i) + r + 3), .slice (some ⟨wq.heap.size + 1, 0, none⟩) 1 1, .bool true, .int .i64 1, .int .i64 0, .int .i64 (i : Int), .int .i64 0, .int .i64 0, .int .i64 0, .int .i64 0, .int .i64 (3 * ((k : Int) - i) + r + 2), .slice (some ⟨wq.heap.size + 3, 0, none⟩) 1 1, .bool true, .int .i64 1, .int .i64 0, .int .i64 (i : Int), .int .i64 0, .int .i64 1, .int .i64 0, .int .i64 0, .int .i64 1, .slice none 0 0]) (by rfl) (by exact al5_4 wq (Obj.cells #[.int .i64 (3 * (i : Int) + 1)] 3) (Obj.cells #[.int .i64 (i : Int), .int .i64 0, .slice (some ⟨wq.heap.size + 0, 0, none⟩) 1 1] 51) (Obj.cells #[.int .i64 (3 * (((i : Int) + 1) % (k : Int))), .int .i64 (3 * (i : Int) + 2)] 3) (Obj.cells #[.int .i64 0, .int .i64 0, .slice (some ⟨wq.heap.size + 2, 0, none⟩) 2 2] 51) (Obj.cells #[.bool true, .int .i64 0, .int .i64 (i : Int), .int .i64 0, .int .i64 0, .int .i64 0, .int .i64 0, .int .i64 0, .int .i64 (3 * ((k : Int) - i) + r + 3), .slice (some ⟨wq.heap.size + 1, 0, none⟩) 1 1, .bool true, .int .i64 1, .int .i64 0, .int .i64 (i : Int), .int .i64 0, .int .i64 0, .int .i64 0, .int .i64 0, .int .i64 (3 * ((k : Int) - i) + r + 2), .slice (some ⟨wq.heap.size + 3, 0, none⟩) 1 1, .bool true, .int .i64 1, .int .i64 0, .int .i64 (i : Int), .int .i64 0, .int .i64 1, .int .i64 0, .int .i64 0, .int .i64 1, .slice none 0 0] 37)) (by rfl) (by rw [rgIn_len]; simp; omega) (by decide) (by have := HSZ.out; simp; omega) ?_); intro v6 w6 o6 g6 t6; obtain ⟨A6, k6, ev6, -, -, -⟩ := id o6.shape; rw [HLI.out] at ev6; subst ev6; have q6 := blk_grown (blk_below C1.out (by repeat (first | exact below_refl _ | apply below_alloc' | apply below_drew'))) g6 (fun e => by have := (OI.out.base e.symm).1; have := HBS.out; omega); have m0 : w6.cell? ⟨bg + 1, 0, none⟩ = some (.int .i64 0) := blk_cell q6 0; have m1 : w6.cell? ⟨bg + 1, 1, none⟩ = some (.slice Ai (3 * i) ki) := blk_cell q6 1; have f1 : w6.frozen? ⟨bg + 1, 1, none⟩ = false := blk_frozen q6 1; have HPL := Lib.hid (HPG.out _ w6 (by repeat (first | exact below_refl _ | apply below_alloc' | apply below_drew')) g6); have HZ := Lib.hid (rg2_in (i' := i + 1) HBS.out (blk_below C1.out (by repeat (first | exact below_refl _ | apply below_alloc' | apply below_drew'))) (blk_below C2.out (by repeat (first | exact below_refl _ | apply below_alloc' | apply below_drew'))) (OI.out.below (by repeat (first | exact below_refl _ | apply below_alloc' | apply below_drew'))) (OO.out.below (by repeat (first | exact below_refl _ | apply below_alloc' | apply below_drew'))) HNE.out (HU.out.trans (Upd.of_below (by repeat (first | exact below_refl _ | apply below_alloc' | apply below_drew')))) RIS.out o6 g6 t6); clear o6 g6 t6 q6)
                refine hK.out _ _ ?_ (fun hHeld => ?_)
                · (try dsimp only)
                  (first | exact ⟨kS _ HPL.out.1 HPL.out.2, m1⟩ | exact ⟨kS _ (blk_below HP0.out (by repeat (first | exact below_refl _ | apply below_alloc' | apply below_drew'))) (blk_below HP1.out (by repeat (first | exact below_refl _ | apply below_alloc' | apply below_drew'))), below_cell (w := wq) (by repeat (first | exact below_refl _ | apply below_alloc' | apply below_drew')) c1⟩)
                clear hK K
                try simp only [Act.put, List.setIfInBounds_toArray, List.set_cons_zero, List.set_cons_succ]
                refine wpAnyH_take (i := 32) (v := ?_) rfl (by kernel_rfl) (by kernel_rfl) (by kernel_rfl) (fun _ _ _ h => h) (Or.inl ⟨by rfl, ?_⟩) (by assumption) ?_
                rotate_left 1
                · (intro w hSw; (try dsimp only at hSw); (go_simp <;> with_reducible rfl))
                try simp only [Act.put, List.setIfInBounds_toArray, List.set_cons_zero, List.set_cons_succ]
                refine wpAnyH_done (by kernel_rfl) ?_ _
                refine lastQ_normal rfl (fun K hK => ?_)
                go_simp
                refine hK.out _ _ ?_
                clear hK K
                try simp only [Act.put, List.setIfInBounds_toArray, List.set_cons_zero, List.set_cons_succ]
                go_wp2_with fail
                go_meet
                first
                  | exact ⟨rfl, HZ.out, set_keep HPL.out.1 (by simp only; omega)⟩
                  | exact ⟨rfl, rg2_below HZ.out (below_drew' (below_refl _)), set_keep HPL.out.1 (by simp only; omega)⟩
              ·
                try clear hHeld
                go_simp
                refine hK.out _ _ ?_ (fun hHeld => ?_)
                · (try dsimp only)
                  (first | exact ⟨kS _ HPL.out.1 HPL.out.2, m1⟩ | exact ⟨kS _ (blk_below HP0.out (by repeat (first | exact below_refl _ | apply below_alloc' | apply below_drew'))) (blk_below HP1.out (by repeat (first | exact below_refl _ | apply below_alloc' | apply below_drew'))), below_cell (w := wq) (by repeat (first | exact below_refl _ | apply below_alloc' | apply below_drew')) c1⟩)
                clear hK K
                try simp only [Act.put, List.setIfInBounds_toArray, List.set_cons_zero, List.set_cons_succ]
                refine wpAnyH_take (i := 25) (v := ?_) rfl (by kernel_rfl) (by kernel_rfl) (by kernel_rfl) (fun _ _ _ h => h) (Or.inl ⟨by rfl, ?_⟩) (by assumption) ?_
                rotate_left 1
                · (intro w hSw; (try dsimp only at hSw); (go_simp <;> with_reducible rfl))
                try simp only [Act.put, List.setIfInBounds_toArray, List.set_cons_zero, List.set_cons_succ]
                refine wpAnyH_ready (rs := [11, 26]) (by kernel_rfl) (by simp) ?_
                refine AllReadyH.cons rfl (fun K hK => ?_) (AllReadyH.cons rfl (fun K hK => ?_) AllReadyH.nil)
                ·
                  try clear hHeld
                  go_simp
                  refine hK.out _ _ ?_ (fun hHeld => ?_)
                  · (try dsimp only)
                    (first | exact ⟨kS _ HPL.out.1 HPL.out.2, m1⟩ | exact ⟨kS _ (blk_below HP0.out (by repeat (first | exact below_refl _ | apply below_alloc' | apply below_drew'))) (blk_below HP1.out (by repeat (first | exact below_refl _ | apply below_alloc' | apply below_drew'))), below_cell (w := wq) (by repeat (first | exact below_refl _ | apply below_alloc' | apply below_drew')) c1⟩)
                  clear hK K
                  try simp only [Act.put, List.setIfInBounds_toArray, List.set_cons_zero, List.set_cons_succ]
                  refine wpAnyH_take (i := 12) (v := ?_) rfl (by kernel_rfl) (by kernel_rfl) (by kernel_rfl) (fun _ _ _ h => h) (Or.inl ⟨by rfl, ?_⟩) (by assumption) ?_
                  rotate_left 1
                  · (intro w hSw; (try dsimp only at hSw); (go_simp <;> with_reducible rfl))
                  try simp only [Act.put, List.setIfInBounds_toArray, List.set_cons_zero, List.set_cons_succ]
                  refine wpAnyH_ready (rs := [26]) (by kernel_rfl) (by simp) ?_
                  refine AllReadyH.cons rfl (fun K hK => ?_) AllReadyH.nil
                  try clear hHeld
                  go_simp
                  refine hK.out _ _ ?_ (fun hHeld => ?_)
                  · (try dsimp only)
                    (first | exact ⟨kS _ HPL.out.1 HPL.out.2, m1⟩ | exact ⟨kS _ (blk_below HP0.out (by repeat (first | exact below_refl _ | apply below_alloc' | apply below_drew'))) (blk_below HP1.out (by repeat (first | exact below_refl _ | apply below_alloc' | apply below_drew'))), below_cell (w := wq) (by repeat (first | exact below_refl _ | apply below_alloc' | apply below_drew')) c1⟩)
                  clear hK K
                  try simp only [Act.put, List.setIfInBounds_toArray, List.set_cons_zero, List.set_cons_succ]
                  refine wpAnyH_take (i := 27) (v := ?_) rfl (by kernel_rfl) (by kernel_rfl) (by kernel_rfl) (fun _ _ _ h => h) (Or.inl ⟨by rfl, ?_⟩) (by assumption) ?_
                  rotate_left 1
                  · (intro w hSw; (try dsimp only at hSw); (go_simp <;> with_reducible rfl))
                  try simp only [Act.put, List.setIfInBounds_toArray, List.set_cons_zero, List.set_cons_succ]
                  refine wpAnyH_ready (rs := [30]) (by kernel_rfl) (by simp) ?_
                  refine AllReadyH.cons rfl (fun K hK => ?_) AllReadyH.nil
                  try clear hHeld
                  go_simp
                  refine hK.out _ _ ?_ (fun hHeld => ?_)
                  · (try dsimp only)
                    (first | exact ⟨kS _ HPL.out.1 HPL.out.2, m1⟩ | exact ⟨kS _ (blk_below HP0.out (by repeat (first | exact below_refl _ | apply below_alloc' | apply below_drew'))) (blk_below HP1.out (by repeat (first | exact below_refl _ | apply below_alloc' | apply below_drew'))), below_cell (w := wq) (by repeat (first | exact below_refl _ | apply below_alloc' | apply below_drew')) c1⟩)
                  clear hK K
                  try simp only [Act.put, List.setIfInBounds_toArray, List.set_cons_zero, List.set_cons_succ]
                  refine wpAnyH_ready (rs := [31]) (by kernel_rfl) (by simp) ?_
                  refine AllReadyH.cons rfl (fun K hK => ?_) AllReadyH.nil
                  try clear hHeld
                  ((refine step_append_list (d := NR) (base := w4.heap.size) (by rfl) _ _ 38 37 _ 96 (by rfl) Try.underlying38 infoNd (by rfl) (by show 0 < 10; decide) (v := (.slice Ai (3 * i) ki)) (xs := (rgIn k r i)) (by rfl) (OI.out.below (by repeat (first | exact below_refl _ | apply below_alloc' | apply below_drew'))) [rgA k r i, rgB' k r i, rgC i] [nodCs (rgA k r i) (.slice (some ⟨wq.heap.size + 2, 0, none⟩) 1 1), nodCs (rgB' k r i) (.slice (some ⟨wq.heap.size + 3, 0, none⟩) 1 1), nodCs (rgC i) (.slice none 0 0)] rfl (hy3 (nodT_hy (x := rgA k r i) (sp := (i : Int)) (cj := 0) (kids := [3 * (i : Int) + 1]) (n := 1) (p := wq.heap.size + 0) (q := wq.heap.size + 2) (arr := #[.int .i64 (3 * (i : Int) + 1)]) rfl rfl (by decide) (by exact al5_0 wq (Obj.cells #[.int .i64 (3 * (i : Int) + 1)] 3) (Obj.cells #[.int .i64 (3 * (((i : Int) + 1) % (k : Int))), .int .i64 (3 * (i : Int) + 2)] 3) (Obj.cells #[.int .i64 (i : Int), .int .i64 0, .slice (some ⟨wq.heap.size + 0, 0, none⟩) 1 1] 51) (Obj.cells #[.int .i64 0, .int .i64 0, .slice (some ⟨wq.heap.size + 1, 0, none⟩) 2 2] 51) (Obj.cells #[.bool true, .int .i64 0, .int .i64 (i : Int), .int .i64 0, .int .i64 0, .int .i64 0, .int .i64 0, .int .i64 0, .int .i64 (3 * ((k : Int) - i) + r + 3), .slice (some ⟨wq.heap.size + 2, 0, none⟩) 1 1, .bool true, .int .i64 1, .int .i64 0, .int .i64 (i : Int), .int .i64 0, .int .i64 0, .int .i64 0, .int .i64 0, .int .i64 (3 * ((k : Int) - i) + r + 2), .slice (some ⟨wq.heap.size + 3, 0, none⟩) 1 1, .bool true, .int .i64 1, .int .i64 0, .int .i64 (i : Int), .int .i64 0, .int .i64 1, .int .i64 0, .int .i64 0, .int .i64 1, .slice none 0 0] 37)) rfl (by exact al5_2 wq (Obj.cells #[.int .i64 (3 * (i : Int) + 1)] 3) (Obj.cells #[.int .i64 (3 * (((i : Int) + 1) % (k : Int))), .int .i64 (3 * (i : Int) + 2)] 3) (Obj.cells #[.int .i64 (i : Int), .int .i64 0, .slice (some ⟨wq.heap.size + 0, 0, none⟩) 1 1] 51) (Obj.cells #[.int .i64 0, .int .i64 0, .slice (some ⟨wq.heap.size + 1, 0, none⟩) 2 2] 51) (Obj.cells #[.bool true, .int .i64 0, .int .i64 (i : Int), .int .i64 0, .int .i64 0, .int .i64 0, .int .i64 0, .int .i64 0, .int .i64 (3 * ((k : Int) - i) + r + 3), .slice (some ⟨wq.heap.size + 2, 0, none⟩) 1 1, .bool true, .int .i64 1, .int .i64 0, .int .i64 (i : Int), .int .i64 0, .int .i64 0, .int .i64 0, .int .i64 0, .int .i64 (3 * ((k : Int) - i) + r + 2), .slice (some ⟨wq.heap.size + 3, 0, none⟩) 1 1, .bool true, .int .i64 1, .int .i64 0, .int .i64 (i : Int), .int .i64 0, .int .i64 1, .int .i64 0, .int .i64 0, .int .i64 1, .slice none 0 0] 37)) (HSQ.out _ (by omega)) (HSQ.out _ (by omega))) (nodT_hy (x := rgB' k r i) (sp := 0) (cj := 0) (kids := [3 * (((i : Int) + 1) % (k : Int)), 3 * (i : Int) + 2]) (n := 2) (p := wq.heap.size + 1) (q := wq.heap.size + 3) (arr := #[.int .i64 (3 * (((i : Int) + 1) % (k : Int))), .int .i64 (3 * (i : Int) + 2)]) rfl rfl (by decide) (by exact al5_1 wq (Obj.cells #[.int .i64 (3 * (i : Int) + 1)] 3) (Obj.cells #[.int .i64 (3 * (((i : Int) + 1) % (k : Int))), .int .i64 (3 * (i : Int) + 2)] 3) (Obj.cells #[.int .i64 (i : Int), .int .i64 0, .slice (some ⟨wq.heap.size + 0, 0, none⟩) 1 1] 51) (Obj.cells #[.int .i64 0, .int .i64 0, .slice (some ⟨wq.heap.size + 1, 0, none⟩) 2 2] 51) (Obj.cells #[.bool true, .int .i64 0, .int .i64 (i : Int), .int .i64 0, .int .i64 0, .int .i64 0, .int .i64 0, .int .i64 0, .int .i64 (3 * ((k : Int) - i) + r + 3), .slice (some ⟨wq.heap.size + 2, 0, none⟩) 1 1, .bool true, .int .i64 1, .int .i64 0, .int .i64 (i : Int), .int .i64 0, .int .i64 0, .int .i64 0, .int .i64 0, .int .i64 (3 * ((k : Int) - i) + r + 2), .slice (some ⟨wq.heap.size + 3, 0, none⟩) 1 1, .bool true, .int .i64 1, .int .i64 0, .int .i64 (i : Int), .int .i64 0, .int .i64 1, .int .i64 0, .int .i64 0, .int .i64 1, .slice none 0 0] 37)) rfl (by exact al5_3 wq (Obj.cells #[.int .i64 (3 * (i : Int) + 1)] 3) (Obj.cells #[.int .i64 (3 * (((i : Int) + 1) % (k : Int))), .int .i64 (3 * (i : Int) + 2)] 3) (Obj.cells #[.int .i64 (i : Int), .int .i64 0, .slice (some ⟨wq.heap.size + 0, 0, none⟩) 1 1] 51) (Obj.cells #[.int .i64 0, .int .i64 0, .slice (some ⟨wq.heap.size + 1, 0, none⟩) 2 2] 51) (Obj.cells #[.bool true, .int .i64 0, .int .i64 (i : Int), .int .i64 0, .int .i64 0, .int .i64 0, .int .i64 0, .int .i64 0, .int .i64 (3 * ((k : Int) - i) + r + 3), .slice (some ⟨wq.heap.size + 2, 0, none⟩) 1 1, .bool true, .int .i64 1, .int .i64 0, .int .i64 (i : Int), .int .i64 0, .int .i64 0, .int .i64 0, .int .i64 0, .int .i64 (3 * ((k : Int) - i) + r + 2), .slice (some ⟨wq.heap.size + 3, 0, none⟩) 1 1, .bool true, .int .i64 1, .int .i64 0, .int .i64 (i : Int), .int .i64 0, .int .i64 1, .int .i64 0, .int .i64 0, .int .i64 1, .slice none 0 0] 37)) (HSQ.out _ (by omega)) (HSQ.out _ (by omega))) (nodT_hy0 rfl)) (b := wq.heap.size + 4) (arr := #[.bool true, .int .i64 0, .int .i64 (i : Int), .int .i64 0, .int .i64 0, .int .i64 0, .int .i64 0, .int .i64 0, .int .i64 (3 * ((k : Int) - i) + r + 3), .slice (some ⟨wq.heap.size + 2, 0, none⟩) 1 1, .bool true, .int .i64 1, .int .i64 0, .int .i64 (i : Int), .int .i64 0, .int .i64 0, .int .i64 0, .int .i64 0, .int .i64 (3 * ((k : Int) - i) + r + 2), .slice (some ⟨wq.heap.size + 3, 0, none⟩) 1 1, .bool true, .int .i64 1, .int .i64 0, .int .i64 (i : Int), .int .i64 0, .int .i64 1, .int .i64 0, .int .i64 0, .int .i64 1, .slice none 0 0]) (by rfl) (by exact al5_4 wq (Obj.cells #[.int .i64 (3 * (i : Int) + 1)] 3) (Obj.cells #[.int .i64 (3 * (((i : Int) + 1) % (k : Int))), .int .i64 (3 * (i : Int) + 2)] 3) (Obj.cells #[.int .i64 (i : Int), .int .i64 0, .slice (some ⟨wq.heap.size + 0, 0, none⟩) 1 1] 51) (Obj.cells #[.int .i64 0, .int .i64 0, .slice (some ⟨wq.heap.size + 1, 0, none⟩) 2 2] 51) (Obj.cells #[.bool true, .int .i64 0, .int .i64 (i : Int), .int .i64 0, .int .i64 0, .int .i64 0, .int .i64 0, .int .i64 0, .int .i64 (3 * ((k : Int) - i) + r + 3), .slice (some ⟨wq.heap.size + 2, 0, none⟩) 1 1, .bool true, .int .i64 1, .int .i64 0, .int .i64 (i : Int), .int .i64 0, .int .i64 0, .int .i64 0, .int .i64 0, .int .i64 (3 * ((k : Int) - i) + r + 2), .slice (some ⟨wq.heap.size + 3, 0, none⟩) 1 1, .bool true, .int .i64 1, .int .i64 0, .int .i64 (i : Int), .int .i64 0, .int .i64 1, .int .i64 0, .int .i64 0, .int .i64 1, .slice none 0 0] 37)) (by rfl) (by rw [rgIn_len]; simp; omega) (by decide) (by have := HSZ.out; simp; omega) ?_); intro v6 w6 o6 g6 t6; obtain ⟨A6, k6, ev6, -, -, -⟩ := id o6.shape; rw [HLI.out] at ev6; subst ev6; have q6 := blk_grown (blk_below C1.out (by repeat (first | exact below_refl _ | apply below_alloc' | apply below_drew'))) g6 (fun e => by have := (OI.out.base e.symm).1; have := HBS.out; omega); have m0 : w6.cell? ⟨bg + 1, 0, none⟩ = some (.int .i64 0) := blk_cell q6 0; have m1 : w6.cell? ⟨bg + 1, 1, none⟩ = some (.slice Ai (3 * i) ki) := blk_cell q6 1; have f1 : w6.frozen? ⟨bg + 1, 1, none⟩ = false := blk_frozen q6 1; have HPL := Lib.hid (HPG.out _ w6 (by repeat (first | exact below_refl _ | apply below_alloc' | apply below_drew')) g6); have HZ := Lib.hid (rg2_in (i' := i + 1) HBS.out (blk_below C1.out (by repeat (first | exact below_refl _ | apply below_alloc' | apply below_drew'))) (blk_below C2.out (by repeat (first | exact below_refl _ | apply below_alloc' | apply below_drew'))) (OI.out.below (by repeat (first | exact below_refl _ | apply below_alloc' | apply below_drew'))) (OO.out.below (by repeat (first | exact below_refl _ | apply below_alloc' | apply below_drew'))) HNE.out (HU.out.trans (Upd.of_below (by repeat (first | exact below_refl _ | apply below_alloc' | apply below_drew')))) RIS.out o6 g6 t6); clear o6 g6 t6 q6)
                  refine hK.out _ _ ?_ (fun hHeld => ?_)
                  · (try dsimp only)
                    (first | exact ⟨kS _ HPL.out.1 HPL.out.2, m1⟩ | exact ⟨kS _ (blk_below HP0.out (by repeat (first | exact below_refl _ | apply below_alloc' | apply below_drew'))) (blk_below HP1.out (by repeat (first | exact below_refl _ | apply below_alloc' | apply below_drew'))), below_cell (w := wq) (by repeat (first | exact below_refl _ | apply below_alloc' | apply below_drew')) c1⟩)
                  clear hK K
                  try simp only [Act.put, List.setIfInBounds_toArray, List.set_cons_zero, List.set_cons_succ]
                  refine wpAnyH_take (i := 32) (v := ?_) rfl (by kernel_rfl) (by kernel_rfl) (by kernel_rfl) (fun _ _ _ h => h) (Or.inl ⟨by rfl, ?_⟩) (by assumption) ?_
                  rotate_left 1
                  · (intro w hSw; (try dsimp only at hSw); (go_simp <;> with_reducible rfl))
                  try simp only [Act.put, List.setIfInBounds_toArray, List.set_cons_zero, List.set_cons_succ]
                  refine wpAnyH_done (by kernel_rfl) ?_ _
                  refine lastQ_normal rfl (fun K hK => ?_)
                  go_simp
                  refine hK.out _ _ ?_
                  clear hK K
                  try simp only [Act.put, List.setIfInBounds_toArray, List.set_cons_zero, List.set_cons_succ]
                  go_wp2_with fail
                  go_meet
                  first
                    | exact ⟨rfl, HZ.out, set_keep HPL.out.1 (by simp only; omega)⟩
                    | exact ⟨rfl, rg2_below HZ.out (below_drew' (below_refl _)), set_keep HPL.out.1 (by simp only; omega)⟩
                ·
                  try clear hHeld
                  go_simp
                  refine hK.out _ _ ?_ (fun hHeld => ?_)
                  · (try dsimp only)
                    (first | exact ⟨kS _ HPL.out.1 HPL.out.2, m1⟩ | exact ⟨kS _ (blk_below HP0.out (by repeat (first | exact below_refl _ | apply below_alloc' | apply below_drew'))) (blk_below HP1.out (by repeat (first | exact below_refl _ | apply below_alloc' | apply below_drew'))), below_cell (w := wq) (by repeat (first | exact below_refl _ | apply below_alloc' | apply below_drew')) c1⟩)
                  clear hK K
                  try simp only [Act.put, List.setIfInBounds_toArray, List.set_cons_zero, List.set_cons_succ]
                  refine wpAnyH_take (i := 27) (v := ?_) rfl (by kernel_rfl) (by kernel_rfl) (by kernel_rfl) (fun _ _ _ h => h) (Or.inl ⟨by rfl, ?_⟩) (by assumption) ?_
                  rotate_left 1
                  · (intro w hSw; (try dsimp only at hSw); (go_simp <;> with_reducible rfl))
                  try simp only [Act.put, List.setIfInBounds_toArray, List.set_cons_zero, List.set_cons_succ]
                  refine wpAnyH_ready (rs := [11]) (by kernel_rfl) (by simp) ?_
                  refine AllReadyH.cons rfl (fun K hK => ?_) AllReadyH.nil
                  try clear hHeld
                  go_simp
                  refine hK.out _ _ ?_ (fun hHeld => ?_)
                  · (try dsimp only)
                    (first | exact ⟨kS _ HPL.out.1 HPL.out.2, m1⟩ | exact ⟨kS _ (blk_below HP0.out (by repeat (first | exact below_refl _ | apply below_alloc' | apply below_drew'))) (blk_below HP1.out (by repeat (first | exact below_refl _ | apply below_alloc' | apply below_drew'))), below_cell (w := wq) (by repeat (first | exact below_refl _ | apply below_alloc' | apply below_drew')) c1⟩)
                  clear hK K
                  try simp only [Act.put, List.setIfInBounds_toArray, List.set_cons_zero, List.set_cons_succ]
                  refine wpAnyH_take (i := 12) (v := ?_) rfl (by kernel_rfl) (by kernel_rfl) (by kernel_rfl) (fun _ _ _ h => h) (Or.inl ⟨by rfl, ?_⟩) (by assumption) ?_
                  rotate_left 1
                  · (intro w hSw; (try dsimp only at hSw); (go_simp <;> with_reducible rfl))
                  try simp only [Act.put, List.setIfInBounds_toArray, List.set_cons_zero, List.set_cons_succ]
                  refine wpAnyH_ready (rs := [30]) (by kernel_rfl) (by simp) ?_
                  refine AllReadyH.cons rfl (fun K hK => ?_) AllReadyH.nil
                  try clear hHeld
                  go_simp
                  refine hK.out _ _ ?_ (fun hHeld => ?_)
                  · (try dsimp only)
                    (first | exact ⟨kS _ HPL.out.1 HPL.out.2, m1⟩ | exact ⟨kS _ (blk_below HP0.out (by repeat (first | exact below_refl _ | apply below_alloc' | apply below_drew'))) (blk_below HP1.out (by repeat (first | exact below_refl _ | apply below_alloc' | apply below_drew'))), below_cell (w := wq) (by repeat (first | exact below_refl _ | apply below_alloc' | apply below_drew')) c1⟩)
                  clear hK K
                  try simp only [Act.put, List.setIfInBounds_toArray, List.set_cons_zero, List.set_cons_succ]
                  refine wpAnyH_ready (rs := [31]) (by kernel_rfl) (by simp) ?_
                  refine AllReadyH.cons rfl (fun K hK => ?_) AllReadyH.nil
                  try clear hHeld
                  ((refine step_append_list (d := NR) (base := w4.heap.size) (by rfl) _ _ 38 37 _ 96 (by rfl) Try.underlying38 infoNd (by rfl) (by show 0 < 10; decide) (v := (.slice Ai (3 * i) ki)) (xs := (rgIn k r i)) (by rfl) (OI.out.below (by repeat (first | exact below_refl _ | apply below_alloc' | apply below_drew'))) [rgA k r i, rgB' k r i, rgC i] [nodCs (rgA k r i) (.slice (some ⟨wq.heap.size + 3, 0, none⟩) 1 1), nodCs (rgB' k r i) (.slice (some ⟨wq.heap.size + 2, 0, none⟩) 1 1), nodCs (rgC i) (.slice none 0 0)] rfl (hy3 (nodT_hy (x := rgA k r i) (sp := (i : Int)) (cj := 0) (kids := [3 * (i : Int) + 1]) (n := 1) (p := wq.heap.size + 0) (q := wq.heap.size + 3) (arr := #[.int .i64 (3 * (i : Int) + 1)]) rfl rfl (by decide) (by exact al5_0 wq (Obj.cells #[.int .i64 (3 * (i : Int) + 1)] 3) (Obj.cells #[.int .i64 (3 * (((i : Int) + 1) % (k : Int))), .int .i64 (3 * (i : Int) + 2)] 3) (Obj.cells #[.int .i64 0, .int .i64 0, .slice (some ⟨wq.heap.size + 1, 0, none⟩) 2 2] 51) (Obj.cells #[.int .i64 (i : Int), .int .i64 0, .slice (some ⟨wq.heap.size + 0, 0, none⟩) 1 1] 51) (Obj.cells #[.bool true, .int .i64 0, .int .i64 (i : Int), .int .i64 0, .int .i64 0, .int .i64 0, .int .i64 0, .int .i64 0, .int .i64 (3 * ((k : Int) - i) + r + 3), .slice (some ⟨wq.heap.size + 3, 0, none⟩) 1 1, .bool true, .int .i64 1, .int .i64 0, .int .i64 (i : Int), .int .i64 0, .int .i64 0, .int .i64 0, .int .i64 0, .int .i64 (3 * ((k : Int) - i) + r + 2), .slice (some ⟨wq.heap.size + 2, 0, none⟩) 1 1, .bool true, .int .i64 1, .int .i64 0, .int .i64 (i : Int), .int .i64 0, .int .i64 1, .int .i64 0, .int .i64 0, .int .i64 1, .slice none 0 0] 37)) rfl (by exact al5_3 wq (Obj.cells #[.int .i64 (3 * (i : Int) + 1)] 3) (Obj.cells #[.int .i64 (3 * (((i : Int) + 1) % (k : Int))), .int .i64 (3 * (i : Int) + 2)] 3) (Obj.cells #[.int .i64 0, .int .i64 0, .slice (some ⟨wq.heap.size + 1, 0, none⟩) 2 2] 51) (Obj.cells #[.int .i64 (i : Int), .int .i64 0, .slice (some ⟨wq.heap.size + 0, 0, none⟩) 1 1] 51) (Obj.cells #[.bool true, .int .i64 0, .int .i64 (i : Int), .int .i64 0, .int .i64 0, .int .i64 0, .int .i64 0, .int .i64 0, .int .i64 (3 * ((k : Int) - i) + r + 3), .slice (some ⟨wq.heap.size + 3, 0, none⟩) 1 1, .bool true, .int .i64 1, .int .i64 0, .int .i64 (i : Int), .int .i64 0, .int .i64 0, .int .i64 0, .int .i64 0, .int .i64 (3 * ((k : Int) - i) + r + 2), .slice (some ⟨wq.heap.size + 2, 0, none⟩) 1 1, .bool true, .int .i64 1, .int .i64 0, .int .i64 (i : Int), .int .i64 0, .int .i64 1, .int .i64 0, .int .i64 0, .int .i64 1, .slice none 0 0] 37)) (HSQ.out _ (by omega)) (HSQ.out _ (by omega))) (nodT_hy (x := rgB' k r i) (sp := 0) (cj := 0) (kids := [3 * (((i : Int) + 1) % (k : Int)), 3 * (i : Int) + 2]) (n := 2) (p := wq.heap.size + 1) (q := wq.heap.size + 2) (arr := #[.int .i64 (3 * (((i : Int) + 1) % (k : Int))), .int .i64 (3 * (i : Int) + 2)]) rfl rfl (by decide) (by exact al5_1 wq (Obj.cells #[.int .i64 (3 * (i : Int) + 1)] 3) (Obj.cells #[.int .i64 (3 * (((i : Int) + 1) % (k : Int))), .int .i64 (3 * (i : Int) + 2)] 3) (Obj.cells #[.int .i64 0, .int .i64 0, .slice (some ⟨wq.heap.size + 1, 0, none⟩) 2 2] 51) (Obj.cells #[.int .i64 (i : Int), .int .i64 0, .slice (some ⟨wq.heap.size + 0, 0, none⟩) 1 1] 51) (Obj.cells #[.bool true, .int .i64 0, .int .i64 (i : Int), .int .i64 0, .int .i64 0, .int .i64 0, .int .i64 0, .int .i64 0, .int .i64 (3 * ((k : Int) - i) + r + 3), .slice (some ⟨wq.heap.size + 3, 0, none⟩) 1 1, .bool true, .int .i64 1, .int .i64 0, .int .i64 (i : Int), .int .i64 0, .int .i64 0, .int .i64 0, .int .i64 0, .int .i64 (3 * ((k : Int) - i) + r + 2), .slice (some ⟨wq.heap.size + 2, 0, none⟩) 1 1, .bool true, .int .i64 1, .int .i64 0, .int .i64 (i : Int), .int .i64 0, .int .i64 1, .int .i64 0, .int .i64 0, .int .i64 1, .slice none 0 0] 37)) rfl (by exact al5_2 wq (Obj.cells #[.int .i64 (3 * (i : Int) + 1)] 3) (Obj.cells #[.int .i64 (3 * (((i : Int) + 1) % (k : Int))), .int .i64 (3 * (i : Int) + 2)] 3) (Obj.cells #[.int .i64 0, .int .i64 0, .slice (some ⟨wq.heap.size + 1, 0, none⟩) 2 2] 51) (Obj.cells #[.int .i64 (i : Int), .int .i64 0, .slice (some ⟨wq.heap.size + 0, 0, none⟩) 1 1] 51) (Obj.cells #[.bool true, .int .i64 0, .int .i64 (i : Int), .int .i64 0, .int .i64 0, .int .i64 0, .int .i64 0, .int .i64 0, .int .i64 (3 * ((k : Int) - i) + r + 3), .slice (some ⟨wq.heap.size + 3, 0, none⟩) 1 1, .bool true, .int .i64 1, .int .i64 0, .int .i64 (i : Int), .int .i64 0, .int .i64 0, .int .i64 0, .int .i64 0, .int .i64 (3 * ((k : Int) - i) + r + 2), .slice (some ⟨wq.heap.size + 2, 0, none⟩) 1 1, .bool true, .int .i64 1, .int .i64 0, .int .i64 (i : Int), .int .i64 0, .int .i64 1, .int .i64 0, .int .i64 0, .int .i64 1, .slice none 0 0] 37)) (HSQ.out _ (by omega)) (HSQ.out _ (by omega))) (nodT_hy0 rfl)) (b := wq.heap.size + 4) (arr := #[.bool true, .int .i64 0, .int .i64 (i : Int), .int .i64 0, .int .i64 0, .int .i64 0, .int .i64 0, .int .i64 0, .int .i64 (3 * ((k : Int) - i) + r + 3), .slice (some ⟨wq.heap.size + 3, 0, none⟩) 1 1, .bool true, .int .i64 1, .int .i64 0, .int .i64 (i : Int), .int .i64 0, .int .i64 0, .int .i64 0, .int .i64 0, .int .i64 (3 * ((k : Int) - i) + r + 2), .slice (some ⟨wq.heap.size + 2, 0, none⟩) 1 1, .bool true, .int .i64 1, .int .i64 0, .int .i64 (i : Int), .int .i64 0, .int .i64 1, .int .i64 0, .int .i64 0, .int .i64 1, .slice none 0 0]) (by rfl) (by exact al5_4 wq (Obj.cells #[.int .i64 (3 * (i : Int) + 1)] 3) (Obj.cells #[.int .i64 (3 * (((i : Int) + 1) % (k : Int))), .int .i64 (3 * (i : Int) + 2)] 3) (Obj.cells #[.int .i64 0, .int .i64 0, .slice (some ⟨wq.heap.size + 1, 0, none⟩) 2 2] 51) (Obj.cells #[.int .i64 (i : Int), .int .i64 0, .slice (some ⟨wq.heap.size + 0, 0, none⟩) 1 1] 51) (Obj.cells #[.bool true, .int .i64 0, .int .i64 (i : Int), .int .i64 0, .int .i64 0, .int .i64 0, .int .i64 0, .int .i64 0, .int .i64 (3 * ((k : Int) - i) + r + 3), .slice (some ⟨wq.heap.size + 3, 0, none⟩) 1 1, .bool true, .int .i64 1, .int .i64 0, .int .i64 (i : Int), .int .i64 0, .int .i64 0, .int .i64 0, .int .i64 0, .int .i64 (3 * ((k : Int) - i) + r + 2), .slice (some ⟨wq.heap.size + 2, 0, none⟩) 1 1, .bool true, .int .i64 1, .int .i64 0, .int .i64 (i : Int), .int .i64 0, .int .i64 1, .int .i64 0, .int .i64 0, .int .i64 1, .slice none 0 0] 37)) (by rfl) (by rw [rgIn_len]; simp; omega) (by decide) (by have := HSZ.out; simp; omega) ?_); intro v6 w6 o6 g6 t6; obtain ⟨A6, k6, ev6, -, -, -⟩ := id o6.shape; rw [HLI.out] at ev6; subst ev6; have q6 := blk_grown (blk_below C1.out (by repeat (first | exact below_refl _ | apply below_alloc' | apply below_drew'))) g6 (fun e => by have := (OI.out.base e.symm).1; have := HBS.out; omega); have m0 : w6.cell? ⟨bg + 1, 0, none⟩ = some (.int .i64 0) := blk_cell q6 0; have m1 : w6.cell? ⟨bg + 1, 1, none⟩ = some (.slice Ai (3 * i) ki) := blk_cell q6 1; have f1 : w6.frozen? ⟨bg + 1, 1, none⟩ = false := blk_frozen q6 1; have HPL := Lib.hid (HPG.out _ w6 (by repeat (first | exact below_refl _ | apply below_alloc' | apply below_drew')) g6); have HZ := Lib.hid (rg2_in (i' := i + 1) HBS.out (blk_below C1.out (by repeat (first | exact below_refl _ | apply below_alloc' | apply below_drew'))) (blk_below C2.out (by repeat (first | exact below_refl _ | apply below_alloc' | apply below_drew'))) (OI.out.below (by repeat (first | exact below_refl _ | apply below_alloc' | apply below_drew'))) (OO.out.below (by repeat (first | exact below_refl _ | apply below_alloc' | apply below_drew'))) HNE.out (HU.out.trans (Upd.of_below (by repeat (first | exact below_refl _ | apply below_alloc' | apply below_drew')))) RIS.out o6 g6 t6); clear o6 g6 t6 q6)
                  refine hK.out _ _ ?_ (fun hHeld => ?_)
                  · (try dsimp only)
                    (first | exact ⟨kS _ HPL.out.1 HPL.out.2, m1⟩ | exact ⟨kS _ (blk_below HP0.out (by repeat (first | exact below_refl _ | apply below_alloc' | apply below_drew'))) (blk_below HP1.out (by repeat (first | exact below_refl _ | apply below_alloc' | apply below_drew'))), below_cell (w := wq) (by repeat (first | exact below_refl _ | apply below_alloc' | apply below_drew')) c1⟩)
                  clear hK K
                  try simp only [Act.put, List.setIfInBounds_toArray, List.set_cons_zero, List.set_cons_succ]
                  refine wpAnyH_take (i := 32) (v := ?_) rfl (by kernel_rfl) (by kernel_rfl) (by kernel_rfl) (fun _ _ _ h => h) (Or.inl ⟨by rfl, ?_⟩) (by assumption) ?_
                  rotate_left 1
                  · (intro w hSw; (try dsimp only at hSw); (go_simp <;> with_reducible rfl))
                  try simp only [Act.put, List.setIfInBounds_toArray, List.set_cons_zero, List.set_cons_succ]
                  refine wpAnyH_done (by kernel_rfl) ?_ _
                  refine lastQ_normal rfl (fun K hK => ?_)
                  go_simp
                  refine hK.out _ _ ?_
                  clear hK K
                  try simp only [Act.put, List.setIfInBounds_toArray, List.set_cons_zero, List.set_cons_succ]
                  go_wp2_with fail
                  go_meet
                  first
                    | exact ⟨rfl, HZ.out, set_keep HPL.out.1 (by simp only; omega)⟩
                    | exact ⟨rfl, rg2_below HZ.out (below_drew' (below_refl _)), set_keep HPL.out.1 (by simp only; omega)⟩
            ·
              try clear hHeld
              go_simp
              refine hK.out _ _ ?_ (fun hHeld => ?_)
              · (try dsimp only)
                (first | exact ⟨kS _ HPL.out.1 HPL.out.2, m1⟩ | exact ⟨kS _ (blk_below HP0.out (by repeat (first | exact below_refl _ | apply below_alloc' | apply below_drew'))) (blk_below HP1.out (by repeat (first | exact below_refl _ | apply below_alloc' | apply below_drew'))), below_cell (w := wq) (by repeat (first | exact below_refl _ | apply below_alloc' | apply below_drew')) c1⟩)
              clear hK K
              try simp only [Act.put, List.setIfInBounds_toArray, List.set_cons_zero, List.set_cons_succ]
              refine wpAnyH_take (i := 25) (v := ?_) rfl (by kernel_rfl) (by kernel_rfl) (by kernel_rfl) (fun _ _ _ h => h) (Or.inl ⟨by rfl, ?_⟩) (by assumption) ?_
              rotate_left 1
              · (intro w hSw; (try dsimp only at hSw); (go_simp <;> with_reducible rfl))
              try simp only [Act.put, List.setIfInBounds_toArray, List.set_cons_zero, List.set_cons_succ]
              refine wpAnyH_ready (rs := [9, 26]) (by kernel_rfl) (by simp) ?_
              refine AllReadyH.cons rfl (fun K hK => ?_) (AllReadyH.cons rfl (fun K hK => ?_) AllReadyH.nil)
              ·
                try clear hHeld
                go_simp
                refine hK.out _ _ ?_ (fun hHeld => ?_)
                · (try dsimp only)
                  (first | exact ⟨kS _ HPL.out.1 HPL.out.2, m1⟩ | exact ⟨kS _ (blk_below HP0.out (by repeat (first | exact below_refl _ | apply below_alloc' | apply below_drew'))) (blk_below HP1.out (by repeat (first | exact below_refl _ | apply below_alloc' | apply below_drew'))), below_cell (w := wq) (by repeat (first | exact below_refl _ | apply below_alloc' | apply below_drew')) c1⟩)
                clear hK K
                try simp only [Act.put, List.setIfInBounds_toArray, List.set_cons_zero, List.set_cons_succ]
                refine wpAnyH_take (i := 10) (v := ?_) rfl (by kernel_rfl) (by kernel_rfl) (by kernel_rfl) (fun _ _ _ h => h) (Or.inl ⟨by rfl, ?_⟩) (by assumption) ?_
                rotate_left 1
                · (intro w hSw; (try dsimp only at hSw); (go_simp <;> with_reducible rfl))
                try simp only [Act.put, List.setIfInBounds_toArray, List.set_cons_zero, List.set_cons_succ]
                refine wpAnyH_ready (rs := [11, 26]) (by kernel_rfl) (by simp) ?_
                refine AllReadyH.cons rfl (fun K hK => ?_) (AllReadyH.cons rfl (fun K hK => ?_) AllReadyH.nil)
                ·
                  try clear hHeld
                  go_simp
                  refine hK.out _ _ ?_ (fun hHeld => ?_)
                  · (try dsimp only)
                    (first | exact ⟨kS _ HPL.out.1 HPL.out.2, m1⟩ | exact ⟨kS _ (blk_below HP0.out (by repeat (first | exact below_refl _ | apply below_alloc' | apply below_drew'))) (blk_below HP1.out (by repeat (first | exact below_refl _ | apply below_alloc' | apply below_drew'))), below_cell (w := wq) (by repeat (first | exact below_refl _ | apply below_alloc' | apply below_drew')) c1⟩)
                  clear hK K
                  try simp only [Act.put, List.setIfInBounds_toArray, List.set_cons_zero, List.set_cons_succ]
                  refine wpAnyH_take (i := 12) (v := ?_) rfl (by kernel_rfl) (by kernel_rfl) (by kernel_rfl) (fun _ _ _ h => h) (Or.inl ⟨by rfl, ?_⟩) (by assumption) ?_
                  rotate_left 1
                  · (intro w hSw; (try dsimp only at hSw); (go_simp <;> with_reducible rfl))
                  try simp only [Act.put, List.setIfInBounds_toArray, List.set_cons_zero, List.set_cons_succ]
                  refine wpAnyH_ready (rs := [26]) (by kernel_rfl) (by simp) ?_
                  refine AllReadyH.cons rfl (fun K hK => ?_) AllReadyH.nil
                  try clear hHeld
                  go_simp
                  refine hK.out _ _ ?_ (fun hHeld => ?_)
                  · (try dsimp only)
                    (first | exact ⟨kS _ HPL.out.1 HPL.out.2, m1⟩ | exact ⟨kS _ (blk_below HP0.out (by repeat (first | exact below_refl _ | apply below_alloc' | apply below_drew'))) (blk_below HP1.out (by repeat (first | exact below_refl _ | apply below_alloc' | apply below_drew'))), below_cell (w := wq) (by repeat (first | exact below_refl _ | apply below_alloc' | apply below_drew')) c1⟩)
                  clear hK K
                  try simp only [Act.put, List.setIfInBounds_toArray, List.set_cons_zero, List.set_cons_succ]
                  refine wpAnyH_take (i := 27) (v := ?_) rfl (by kernel_rfl) (by kernel_rfl) (by kernel_rfl) (fun _ _ _ h => h) (Or.inl ⟨by rfl, ?_⟩) (by assumption) ?_
                  rotate_left 1
                  · (intro w hSw; (try dsimp only at hSw); (go_simp <;> with_reducible rfl))
                  try simp only [Act.put, List.setIfInBounds_toArray, List.set_cons_zero, List.set_cons_succ]
                  refine wpAnyH_ready (rs := [30]) (by kernel_rfl) (by simp) ?_
                  refine AllReadyH.cons rfl (fun K hK => ?_) AllReadyH.nil
                  try clear hHeld
                  go_simp
                  refine hK.out _ _ ?_ (fun hHeld => ?_)
                  · (try dsimp only)
                    (first | exact ⟨kS _ HPL.out.1 HPL.out.2, m1⟩ | exact ⟨kS _ (blk_below HP0.out (by repeat (first | exact below_refl _ | apply below_alloc' | apply below_drew'))) (blk_below HP1.out (by repeat (first | exact below_refl _ | apply below_alloc' | apply below_drew'))), below_cell (w := wq) (by repeat (first | exact below_refl _ | apply below_alloc' | apply below_drew')) c1⟩)
                  clear hK K
                  try simp only [Act.put, List.setIfInBounds_toArray, List.set_cons_zero, List.set_cons_succ]
                  refine wpAnyH_ready (rs := [31]) (by kernel_rfl) (by simp) ?_
                  refine AllReadyH.cons rfl (fun K hK => ?_) AllReadyH.nil
                  try clear hHeld
                  ((refine step_append_list (d := NR) (base := w4.heap.size) (by rfl) _ _ 38 37 _ 96 (by rfl) Try.underlying38 infoNd (by rfl) (by show 0 < 10; decide) (v := (.slice Ai (3 * i) ki)) (xs := (rgIn k r i)) (by rfl) (OI.out.below (by repeat (first | exact below_refl _ | apply below_alloc' | apply below_drew'))) [rgA k r i, rgB' k r i, rgC i] [nodCs (rgA k r i) (.slice (some ⟨wq.heap.size + 2, 0, none⟩) 1 1), nodCs (rgB' k r i) (.slice (some ⟨wq.heap.size + 3, 0, none⟩) 1 1), nodCs (rgC i) (.slice none 0 0)] rfl (hy3 (nodT_hy (x := rgA k r i) (sp := (i : Int)) (cj := 0) (kids := [3 * (i : Int) + 1]) (n := 1) (p := wq.heap.size + 1) (q := wq.heap.size + 2) (arr := #[.int .i64 (3 * (i : Int) + 1)]) rfl rfl (by decide) (by exact al5_1 wq (Obj.cells #[.int .i64 (3 * (((i : Int) + 1) % (k : Int))), .int .i64 (3 * (i : Int) + 2)] 3) (Obj.cells #[.int .i64 (3 * (i : Int) + 1)] 3) (Obj.cells #[.int .i64 (i : Int), .int .i64 0, .slice (some ⟨wq.heap.size + 1, 0, none⟩) 1 1] 51) (Obj.cells #[.int .i64 0, .int .i64 0, .slice (some ⟨wq.heap.size + 0, 0, none⟩) 2 2] 51) (Obj.cells #[.bool true, .int .i64 0, .int .i64 (i : Int), .int .i64 0, .int .i64 0, .int .i64 0, .int .i64 0, .int .i64 0, .int .i64 (3 * ((k : Int) - i) + r + 3), .slice (some ⟨wq.heap.size + 2, 0, none⟩) 1 1, .bool true, .int .i64 1, .int .i64 0, .int .i64 (i : Int), .int .i64 0, .int .i64 0, .int .i64 0, .int .i64 0, .int .i64 (3 * ((k : Int) - i) + r + 2), .slice (some ⟨wq.heap.size + 3, 0, none⟩) 1 1, .bool true, .int .i64 1, .int .i64 0, .int .i64 (i : Int), .int .i64 0, .int .i64 1, .int .i64 0, .int .i64 0, .int .i64 1, .slice none 0 0] 37)) rfl (by exact al5_2 wq (Obj.cells #[.int .i64 (3 * (((i : Int) + 1) % (k : Int))), .int .i64 (3 * (i : Int) + 2)] 3) (Obj.cells #[.int .i64 (3 * (i : Int) + 1)] 3) (Obj.cells #[.int .i64 (i : Int), .int .i64 0, .slice (some ⟨wq.heap.size + 1, 0, none⟩) 1 1] 51) (Obj.cells #[.int .i64 0, .int .i64 0, .slice (some ⟨wq.heap.size + 0, 0, none⟩) 2 2] 51) (Obj.cells #[.bool true, .int .i64 0, .int .i64 (i : Int), .int .i64 0, .int .i64 0, .int .i64 0, .int .i64 0, .int .i64 0, .int .i64 (3 * ((k : Int) - i) + r + 3), .slice (some ⟨wq.heap.size + 2, 0, none⟩) 1 1, .bool true, .int .i64 1, .int .i64 0, .int .i64 (i : Int), .int .i64 0, .int .i64 0, .int .i64 0, .int .i64 0, .int .i64 (3 * ((k : Int) - i) + r + 2), .slice (some ⟨wq.heap.size + 3, 0, none⟩) 1 1, .bool true, .int .i64 1, .int .i64 0, .int .i64 (i : Int), .int .i64 0, .int .i64 1, .int .i64 0, .int .i64 0, .int .i64 1, .slice none 0 0] 37)) (HSQ.out _ (by omega)) (HSQ.out _ (by omega))) (nodT_hy (x := rgB' k r i) (sp := 0) (cj := 0) (kids := [3 * (((i : Int) + 1) % (k : Int)), 3 * (i : Int) + 2]) (n := 2) (p := wq.heap.size + 0) (q := wq.heap.size + 3) (arr := #[.int .i64 (3 * (((i : Int) + 1) % (k : Int))), .int .i64 (3 * (i : Int) + 2)]) rfl rfl (by decide) (by exact al5_0 wq (Obj.cells #[.int .i64 (3 * (((i : Int) + 1) % (k : Int))), .int .i64 (3 * (i : Int) + 2)] 3) (Obj.cells #[.int .i64 (3 * (i : Int) + 1)] 3) (Obj.cells #[.int .i64 (i : Int), .int .i64 0, .slice (some ⟨wq.heap.size + 1, 0, none⟩) 1 1] 51) (Obj.cells #[.int .i64 0, .int .i64 0, .slice (some ⟨wq.heap.size + 0, 0, none⟩) 2 2] 51) (Obj.cells #[.bool true, .int .i64 0, .int .i64 (i : Int), .int .i64 0, .int .i64 0, .int .i64 0, .int .i64 0, .int .i64 0, .int .i64 (3 * ((k : Int) - i) + r + 3), .slice (some ⟨wq.heap.size + 2, 0, none⟩) 1 1, .bool true, .int .i64 1, .int .i64 0, .int .i64 (i : Int), .int .i64 0, .int .i64 0, .int .i64 0, .int .i64 0, .int .i64 (3 * ((k : Int) - i) + r + 2), .slice (some ⟨wq.heap.size + 3, 0, none⟩) 1 1, .bool true, .int .i64 1, .int .i64 0, .int .i64 (i : Int), .int .i64 0, .int .i64 1, .int .i64 0, .int .i64 0, .int .i64 1, .slice none 0 0] 37)) rfl (by exact al5_3 wq (Obj.cells #[.int .i64 (3 * (((i : Int) + 1) % (k : Int))), .int .i64 (3 * (i : Int) + 2)] 3) (Obj.cells #[.int .i64 (3 * (i : Int) + 1)] 3) (Obj.cells #[.int .i64 (i : Int), .int .i64 0, .slice (some ⟨wq.heap.size + 1, 0, none⟩) 1 1] 51) (Obj.cells #[.int .i64 0, .int .i64 0, .slice (some ⟨wq.heap.size + 0, 0, none⟩) 2 2] 51) (Obj.cells #[.bool true, .int .i64 0, .int .i64 (i : Int), .int .i64 0, .int .i64 0, .int .i64 0, .int .i64 0, .int .i64 0, .int .i64 (3 * ((k : Int) - i) + r + 3), .slice (some ⟨wq.heap.size + 2, 0, none⟩) 1 1, .bool true, .int .i64 1, .int .i64 0, .int .i64 (i : Int), .int .i64 0, .int .i64 0, .int .i64 0, .int .i64 0, .int .i64 (3 * ((k : Int) - i) + r + 2), .slice (some ⟨wq.heap.size + 3, 0, none⟩) 1 1, .bool true, .int .i64 1, .int .i64 0, .int .i64 (i : Int), .int .i64 0, .int .i64 1, .int .i64 0, .int .i64 0, .int .i64 1, .slice none 0 0] 37)) (HSQ.out _ (by omega)) (HSQ.out _ (by omega))) (nodT_hy0 rfl)) (b := wq.heap.size + 4) (arr := #[.bool true, .int .i64 0, .int .i64 (i : Int), .int .i64 0, .int .i64 0, .int .i64 0, .int .i64 0, .int .i64 0, .int .i64 (3 * ((k : Int) - i) + r + 3), .slice (some ⟨wq.heap.size + 2, 0, none⟩) 1 1, .bool true, .int .i64 1, .int .i64 0, .int .i64 (i : Int), .int .i64 0, .int .i64 0, .int .i64 0, .int .i64 0, .int .i64 (3 * ((k : Int) - i) + r + 2), .slice (some ⟨wq.heap.size + 3, 0, none⟩) 1 1, .bool true, .int .i64 1, .int .i64 0, .int .i64 (i : Int), .int .i64 0, .int .i64 1, .int .i64 0, .int .i64 0, .int .i64 1, .slice none 0 0]) (by rfl) (by exact al5_4 wq (Obj.cells #[.int .i64 (3 * (((i : Int) + 1) % (k : Int))), .int .i64 (3 * (i : Int) + 2)] 3) (Obj.cells #[.int .i64 (3 * (i : Int) + 1)] 3) (Obj.cells #[.int .i64 (i : Int), .int .i64 0, .slice (some ⟨wq.heap.size + 1, 0, none⟩) 1 1] 51) (Obj.cells #[.int .i64 0, .int .i64 0, .slice (some ⟨wq.heap.size + 0, 0, none⟩) 2 2] 51) (Obj.cells #[.bool true, .int .i64 0, .int .i64 (i : Int), .int .i64 0, .int .i64 0, .int .i64 0, .int .i64 0, .int .i64 0, .int .i64 (3 * ((k : Int) - i) + r + 3), .slice (some ⟨wq.heap.size + 2, 0, none⟩) 1 1, .bool true, .int .i64 1, .int .i64 0, .int .i64 (i : Int), .int .i64 0, .int .i64 0, .int .i64 0, .int .i64 0, .int .i64 (3 * ((k : Int) - i) + r + 2), .slice (some ⟨wq.heap.size + 3, 0, none⟩) 1 1, .bool true, .int .i64 1, .int .i64 0, .int .i64 (i : Int), .int .i64 0, .int .i64 1, .int .i64 0, .int .i64 0, .int .i64 1, .slice none 0 0] 37)) (by rfl) (by rw [rgIn_len]; simp; omega) (by decide) (by have := HSZ.out; simp; omega) ?_); intro v6 w6 o6 g6 t6; obtain ⟨A6, k6, ev6, -, -, -⟩ := id o6.shape; rw [HLI.out] at ev6; subst ev6; have q6 := blk_grown (blk_below C1.out (by repeat (first | exact below_refl _ | apply below_alloc' | apply below_drew'))) g6 (fun e => by have := (OI.out.base e.symm).1; have := HBS.out; omega); have m0 : w6.cell? ⟨bg + 1, 0, none⟩ = some (.int .i64 0) := blk_cell q6 0; have m1 : w6.cell? ⟨bg + 1, 1, none⟩ = some (.slice Ai (3 * i) ki) := blk_cell q6 1; have f1 : w6.frozen? ⟨bg + 1, 1, none⟩ = false := blk_frozen q6 1; have HPL := Lib.hid (HPG.out _ w6 (by repeat (first | exact below_refl _ | apply below_alloc' | apply below_drew')) g6); have HZ := Lib.hid (rg2_in (i' := i + 1) HBS.out (blk_below C1.out (by repeat (first | exact below_refl _ | apply below_alloc' | apply below_drew'))) (blk_below C2.out (by repeat (first | exact below_refl _ | apply below_alloc' | apply below_drew'))) (OI.out.below (by repeat (first | exact below_refl _ | apply below_alloc' | apply below_drew'))) (OO.out.below (by repeat (first | exact below_refl _ | apply below_alloc' | apply below_drew'))) HNE.out (HU.out.trans (Upd.of_below (by repeat (first | exact below_refl _ | apply below_alloc' | apply below_drew')))) RIS.out o6 g6 t6); clear o6 g6 t6 q6)
                  refine hK.out _ _ ?_ (fun hHeld => ?_)
                  · (try dsimp only)
                    (first | exact ⟨kS _ HPL.out.1 HPL.out.2, m1⟩ | exact ⟨kS _ (blk_below HP0.out (by repeat (first | exact below_refl _ | apply below_alloc' | apply below_drew'))) (blk_below HP1.out (by repeat (first | exact below_refl _ | apply below_alloc' | apply below_drew'))), below_cell (w := wq) (by repeat (first | exact below_refl _ | apply below_alloc' | apply below_drew')) c1⟩)
                  clear hK K
                  try simp only [Act.put, List.setIfInBounds_toArray, List.set_cons_zero, List.set_cons_succ]
                  refine wpAnyH_take (i := 32) (v := ?_) rfl (by kernel_rfl) (by kernel_rfl) (by kernel_rfl) (fun _ _ _ h => h) (Or.inl ⟨by rfl, ?_⟩) (by assumption) ?_
                  rotate_left 1
                  · (intro w hSw; (try dsimp only at hSw); (go_simp <;> with_reducible rfl))
                  try simp only [Act.put, List.setIfInBounds_toArray, List.set_cons_zero, List.set_cons_succ]
                  refine wpAnyH_done (by kernel_rfl) ?_ _
                  refine lastQ_normal rfl (fun K hK => ?_)
                  go_simp
                  refine hK.out _ _ ?_
                  clear hK K
                  try simp only [Act.put, List.setIfInBounds_toArray, List.set_cons_zero, List.set_cons_succ]
                  go_wp2_with fail
                  go_meet
                  first
                    | exact ⟨rfl, HZ.out, set_keep HPL.out.1 (by simp only; omega)⟩
                    | exact ⟨rfl, rg2_below HZ.out (below_drew' (below_refl _)), set_keep HPL.out.1 (by simp only; omega)⟩
                ·
                  try clear hHeld
                  go_simp
                  refine hK.out _ _ ?_ (fun hHeld => ?_)
                  · (try dsimp only)
                    (first | exact ⟨kS _ HPL.out.1 HPL.out.2, m1⟩ | exact ⟨kS _ (blk_below HP0.out (by repeat (first | exact below_refl _ | apply below_alloc' | apply below_drew'))) (blk_below HP1.out (by repeat (first | exact below_refl _ | apply below_alloc' | apply below_drew'))), below_cell (w := wq) (by repeat (first | exact below_refl _ | apply below_alloc' | apply below_drew')) c1⟩)
                  clear hK K
                  try simp only [Act.put, List.setIfInBounds_toArray, List.set_cons_zero, List.set_cons_succ]
                  refine wpAnyH_take (i := 27) (v := ?_) rfl (by kernel_rfl) (by kernel_rfl) (by kernel_rfl) (fun _ _ _ h => h) (Or.inl ⟨by rfl, ?_⟩) (by assumption) ?_
                  rotate_left 1
                  · (intro w hSw; (try dsimp only at hSw); (go_simp <;> with_reducible rfl))
                  try simp only [Act.put, List.setIfInBounds_toArray, List.set_cons_zero, List.set_cons_succ]
                  refine wpAnyH_ready (rs := [11]) (by kernel_rfl) (by simp) ?_
                  refine AllReadyH.cons rfl (fun K hK => ?_) AllReadyH.nil
                  try clear hHeld
                  go_simp
                  refine hK.out _ _ ?_ (fun hHeld => ?_)
                  · (try dsimp only)
                    (first | exact ⟨kS _ HPL.out.1 HPL.out.2, m1⟩ | exact ⟨kS _ (blk_below HP0.out (by repeat (first | exact below_refl _ | apply below_alloc' | apply below_drew'))) (blk_below HP1.out (by repeat (first | exact below_refl _ | apply below_alloc' | apply below_drew'))), below_cell (w := wq) (by repeat (first | exact below_refl _ | apply below_alloc' | apply below_drew')) c1⟩)
                  clear hK K
                  try simp only [Act.put, List.setIfInBounds_toArray, List.set_cons_zero, List.set_cons_succ]
                  refine wpAnyH_take (i := 12) (v := ?_) rfl (by kernel_rfl) (by kernel_rfl) (by kernel_rfl) (fun _ _ _ h => h) (Or.inl ⟨by rfl, ?_⟩) (by assumption) ?_
                  rotate_left 1
                  · (intro w hSw; (try dsimp only at hSw); (go_simp <;> with_reducible rfl))
                  try simp only [Act.put, List.setIfInBounds_toArray, List.set_cons_zero, List.set_cons_succ]
                  refine wpAnyH_ready (rs := [30]) (by kernel_rfl) (by simp) ?_
                  refine AllReadyH.cons rfl (fun K hK => ?_) AllReadyH.nil
                  try clear hHeld
                  go_simp
                  refine hK.out _ _ ?_ (fun hHeld => ?_)
                  · (try dsimp only)
                    (first | exact ⟨kS _ HPL.out.1 HPL.out.2, m1⟩ | exact ⟨kS _ (blk_below HP0.out (by repeat (first | exact below_refl _ | apply below_alloc' | apply below_drew'))) (blk_below HP1.out (by repeat (first | exact below_refl _ | apply below_alloc' | apply below_drew'))), below_cell (w := wq) (by repeat (first | exact below_refl _ | apply below_alloc' | apply below_drew')) c1⟩)
                  clear hK K
                  try simp only [Act.put, List.setIfInBounds_toArray, List.set_cons_zero, List.set_cons_succ]
                  refine wpAnyH_ready (rs := [31]) (by kernel_rfl) (by simp) ?_
                  refine AllReadyH.cons rfl (fun K hK => ?_) AllReadyH.nil
                  try clear hHeld
                  ((refine step_append_list (d := NR) (base := w4.heap.size) (by rfl) _ _ 38 37 _ 96 (by rfl) Try.underlying38 infoNd (by rfl) (by show 0 < 10; decide) (v := (.slice Ai (3 * i) ki)) (xs := (rgIn k r i)) (by rfl) (OI.out.below (by repeat (first | exact below_refl _ | apply below_alloc' | apply below_drew'))) [rgA k r i, rgB' k r i, rgC i] [nodCs (rgA k r i) (.slice (some ⟨wq.heap.size + 3, 0, none⟩) 1 1), nodCs (rgB' k r i) (.slice (some ⟨wq.heap.size + 2, 0, none⟩) 1 1), nodCs (rgC i) (.slice none 0 0)] rfl (hy3 (nodT_hy (x := rgA k r i) (sp := (i : Int)) (cj := 0) (kids := [3 * (i : Int) + 1]) (n := 1) (p := wq.heap.size + 1) (q := wq.heap.size + 3) (arr := #[.int .i64 (3 * (i : Int) + 1)]) rfl rfl (by decide) (by exact al5_1 wq (Obj.cells #[.int .i64 (3 * (((i : Int) + 1) % (k : Int))), .int .i64 (3 * (i : Int) + 2)] 3) (Obj.cells #[.int .i64 (3 * (i : Int) + 1)] 3) (Obj.cells #[.int .i64 0, .int .i64 0, .slice (some ⟨wq.heap.size + 0, 0, none⟩) 2 2] 51) (Obj.cells #[.int .i64 (i : Int), .int .i64 0, .slice (some ⟨wq.heap.size + 1, 0, none⟩) 1 1] 51) (Obj.cells #[.bool true, .int .i64 0, .int .i64 (i : Int), .int .i64 0, .int .i64 0, .int .i64 0, .int .i64 0, .int .i64 0, .int .i64 (3 * ((k : Int) - i) + r + 3), .slice (some ⟨wq.heap.size + 3, 0, none⟩) 1 1, .bool true, .int .i64 1, .int .i64 0, .int .i64 (i : Int), .int .i64 0, .int .i64 0, .int .i64 0, .int .i64 0, .int .i64 (3 * ((k : Int) - i) + r + 2), .slice (some ⟨wq.heap.size + 2, 0, none⟩) 1 1, .bool true, .int .i64 1, .int .i64 0, .int .i64 (i : Int), .int .i64 0, .int .i64 1, .int .i64 0, .int .i64 0, .int .i64 1, .slice none 0 0] 37)) rfl (by exact al5_3 wq (Obj.cells #[.int .i64 (3 * (((i : Int) + 1) % (k : Int))), .int .i64 (3 * (i : Int) + 2)] 3) (Obj.cells #[.int .i64 (3 * (i : Int) + 1)] 3) (Obj.cells #[.int .i64 0, .int .i64 0, .slice (some ⟨wq.heap.size + 0, 0, none⟩) 2 2] 51) (Obj.cells #[.int .i64 (i : Int), .int .i64 0, .slice (some ⟨wq.heap.size + 1, 0, none⟩) 1 1] 51) (Obj.cells #[.bool true, .int .i64 0, .int .i64 (i : Int), .int .i64 0, .int .i64 0, .int .i64 0, .int .i64 0, .int .i64 0, .int .i64 (3 * ((k : Int) - i) + r + 3), .slice (some ⟨wq.heap.size + 3, 0, none⟩) 1 1, .bool true, .int .i64 1, .int .i64 0, .int .i64 (i : Int), .int .i64 0, .int .i64 0, .int .i64 0, .int .i64 0, .int .i64 (3 * ((k : Int) - i) + r + 2), .slice (some ⟨wq.heap.size + 2, 0, none⟩) 1 1, .bool true, .int .i64 1, .int .i64 0, .int .i64 (i : Int), .int .i64 0, .int .i64 1, .int .i64 0, .int .i64 0, .int .i64 1, .slice none 0 0] 37)) (HSQ.out _ (by omega)) (HSQ.out _ (by omega))) (nodT_hy (x := rgB' k r i) (sp := 0) (cj := 0) (kids := [3 * (((i : Int) + 1) % (k : Int)), 3 * (i : Int) + 2]) (n := 2) (p := wq.heap.size + 0) (q := wq.heap.size + 2) (arr := #[.int .i64 (3 * (((i : Int) + 1) % (k : Int))), .int .i64 (3 * (i : Int) + 2)]) rfl rfl (by decide) (by exact al5_0 wq (Obj.cells #[.int .i64 (3 * (((i : Int) + 1) % (k : Int))), .int .i64 (3 * (i : Int) + 2)] 3) (Obj.cells #[.int .i64 (3 * (i : Int) + 1)] 3) (Obj.cells #[.int .i64 0, .int .i64 0, .slice (some ⟨wq.heap.size + 0, 0, none⟩) 2 2] 51) (Obj.cells #[.int .i64 (i : Int), .int .i64 0, .slice (some ⟨wq.heap.size + 1, 0, none⟩) 1 1] 51) (Obj.cells #[.bool true, .int .i64 0, .int .i64 (i : Int), .int .i64 0, .int .i64 0, .int .i64 0, .int .i64 0, .int .i64 0, .int .i64 (3 * ((k : Int) - i) + r + 3), .slice (some ⟨wq.heap.size + 3, 0, none⟩) 1 1, .bool true, .int .i64 1, .int .i64 0, .int .i64 (i : Int), .int .i64 0, .int .i64 0, .int .i64 0, .int .i64 0, .int .i64 (3 * ((k : Int) - i) + r + 2), .slice (some ⟨wq.heap.size + 2, 0, none⟩) 1 1, .bool true, .int .i64 1, .int .i64 0, .int .i64 (i : Int), .int .i64 0, .int .i64 1, .int .i64 0, .int .i64 0, .int .i64 1, .slice none 0 0] 37)) rfl (by exact al5_2 wq (Obj.cells #[.int .i64 (3 * (((i : Int) + 1) % (k : Int))), .int .i64 (3 * (i : Int) + 2)] 3) (Obj.cells #[.int .i64 (3 * (i : Int) + 1)] 3) (Obj.cells #[.int .i64 0, .int .i64 0, .slice (some ⟨wq.heap.size + 0, 0, none⟩) 2 2] 51) (Obj.cells #[.int .i64 (i : Int), .int .i64 0, .slice (some ⟨wq.heap.size + 1, 0, none⟩) 1 1] 51) (Obj.cells #[.bool true, .int .i64 0, .int .i64 (i : Int), .int .i64 0, .int .i64 0, .int .i64 0, .int .i64 0, .int .i64 0, .int .i64 (3 * ((k : Int) - i) + r + 3), .slice (some ⟨wq.heap.size + 3, 0, none⟩) 1 1, .bool true, .int .i64 1, .int .i64 0, .int .i64 (i : Int), .int .i64 0, .int .i64 0, .int .i64 0, .int .i64 0, .int .i64 (3 * ((k : Int) - i) + r + 2), .slice (some ⟨wq.heap.size + 2, 0, none⟩) 1 1, .bool true, .int .i64 1, .int .i64 0, .int .i64 (i : Int), .int .i64 0, .int .i64 1, .int .i64 0, .int .i64 0, .int .i64 1, .slice none 0 0] 37)) (HSQ.out _ (by omega)) (HSQ.out _ (by omega))) (nodT_hy0 rfl)) (b := wq.heap.size + 4) (arr := #[.bool true, .int .i64 0, .int .i64 (i : Int), .int .i64 0, .int .i64 0, .int .i64 0, .int .i64 0, .int .i64 0, .int .i64 (3 * ((k : Int) - i) + r + 3), .slice (some ⟨wq.heap.size + 3, 0, none⟩) 1 1, .bool true, .int .i64 1, .int .i64 0, .int .i64 (i : Int), .int .i64 0, .int .i64 0, .int .i64 0, .int .i64 0, .int .i64 (3 * ((k : Int) - i) + r + 2), .slice (some ⟨wq.heap.size + 2, 0, none⟩) 1 1, .bool true, .int .i64 1, .int .i64 0, .int .i64 (i : Int), .int .i64 0, .int .i64 1, .int .i64 0, .int .i64 0, .int .i64 1, .slice none 0 0]) (by rfl) (by exact al5_4 wq (Obj.cells #[.int .i64 (3 * (((i : Int) + 1) % (k : Int))), .int .i64 (3 * (i : Int) + 2)] 3) (Obj.cells #[.int .i64 (3 * (i : Int) + 1)] 3) (Obj.cells #[.int .i64 0, .int .i64 0, .slice (some ⟨wq.heap.size + 0, 0, none⟩) 2 2] 51) (Obj.cells #[.int .i64 (i : Int), .int .i64 0, .slice (some ⟨wq.heap.size + 1, 0, none⟩) 1 1] 51) (Obj.cells #[.bool true, .int .i64 0, .int .i64 (i : Int), .int .i64 0, .int .i64 0, .int .i64 0, .int .i64 0, .int .i64 0, .int .i64 (3 * ((k : Int) - i) + r + 3), .slice (some ⟨wq.heap.size + 3, 0, none⟩) 1 1, .bool true, .int .i64 1, .int .i64 0, .int .i64 (i : Int), .int .i64 0, .int .i64 0, .int .i64 0, .int .i64 0, .int .i64 (3 * ((k : Int) - i) + r + 2), .slice (some ⟨wq.heap.size + 2, 0, none⟩) 1 1, .bool true, .int .i64 1, .int .i64 0, .int .i64 (i : Int), .int .i64 0, .int .i64 1, .int .i64 0, .int .i64 0, .int .i64 1, .slice none 0 0] 37)) (by rfl) (by rw [rgIn_len]; simp; omega) (by decide) (by have := HSZ.out; simp; omega) ?_); intro v6 w6 o6 g6 t6; obtain ⟨A6, k6, ev6, -, -, -⟩ := id o6.shape; rw [HLI.out] at ev6; subst ev6; have q6 := blk_grown (blk_below C1.out (by repeat (first | exact below_refl _ | apply below_alloc' | apply below_drew'))) g6 (fun e => by have := (OI.out.base e.symm).1; have := HBS.out; omega); have m0 : w6.cell? ⟨bg + 1, 0, none⟩ = some (.int .i64 0) := blk_cell q6 0; have m1 : w6.cell? ⟨bg + 1, 1, none⟩ = some (.slice Ai (3 * i) ki) := blk_cell q6 1; have f1 : w6.frozen? ⟨bg + 1, 1, none⟩ = false := blk_frozen q6 1; have HPL := Lib.hid (HPG.out _ w6 (by repeat (first | exact below_refl _ | apply below_alloc' | apply below_drew')) g6); have HZ := Lib.hid (rg2_in (i' := i + 1) HBS.out (blk_below C1.out (by repeat (first | exact below_refl _ | apply below_alloc' | apply below_drew'))) (blk_below C2.out (by repeat (first | exact below_refl _ | apply below_alloc' | apply below_drew'))) (OI.out.below (by repeat (first | exact below_refl _ | apply below_alloc' | apply below_drew'))) (OO.out.below (by repeat (first | exact below_refl _ | apply below_alloc' | apply below_drew'))) HNE.out (HU.out.trans (Upd.of_below (by repeat (first | exact below_refl _ | apply below_alloc' | apply below_drew')))) RIS.out o6 g6 t6); clear o6 g6 t6 q6)
                  refine hK.out _ _ ?_ (fun hHeld => ?_)
                  · (try dsimp only)
                    (first | exact ⟨kS _ HPL.out.1 HPL.out.2, m1⟩ | exact ⟨kS _ (blk_below HP0.out (by repeat (first | exact below_refl _ | apply below_alloc' | apply below_drew'))) (blk_below HP1.out (by repeat (first | exact below_refl _ | apply below_alloc' | apply below_drew'))), below_cell (w := wq) (by repeat (first | exact below_refl _ | apply below_alloc' | apply below_drew')) c1⟩)
                  clear hK K
                  try simp only [Act.put, List.setIfInBounds_toArray, List.set_cons_zero, List.set_cons_succ]
                  refine wpAnyH_take (i := 32) (v := ?_) rfl (by kernel_rfl) (by kernel_rfl) (by kernel_rfl) (fun _ _ _ h => h) (Or.inl ⟨by rfl, ?_⟩) (by assumption) ?_
                  rotate_left 1
                  · (intro w hSw; (try dsimp only at hSw); (go_simp <;> with_reducible rfl))
                  try simp only [Act.put, List.setIfInBounds_toArray, List.set_cons_zero, List.set_cons_succ]
                  refine wpAnyH_done (by kernel_rfl) ?_ _
                  refine lastQ_normal rfl (fun K hK => ?_)
                  go_simp
                  refine hK.out _ _ ?_
                  clear hK K
                  try simp only [Act.put, List.setIfInBounds_toArray, List.set_cons_zero, List.set_cons_succ]
                  go_wp2_with fail
                  go_meet
                  first
                    | exact ⟨rfl, HZ.out, set_keep HPL.out.1 (by simp only; omega)⟩
                    | exact ⟨rfl, rg2_below HZ.out (below_drew' (below_refl _)), set_keep HPL.out.1 (by simp only; omega)⟩
              ·
                try clear hHeld
                go_simp
                refine hK.out _ _ ?_ (fun hHeld => ?_)
                · (try dsimp only)
                  (first | exact ⟨kS _ HPL.out.1 HPL.out.2, m1⟩ | exact ⟨kS _ (blk_below HP0.out (by repeat (first | exact below_refl _ | apply below_alloc' | apply below_drew'))) (blk_below HP1.out (by repeat (first | exact below_refl _ | apply below_alloc' | apply below_drew'))), below_cell (w := wq) (by repeat (first | exact below_refl _ | apply below_alloc' | apply below_drew')) c1⟩)
                clear hK K
                try simp only [Act.put, List.setIfInBounds_toArray, List.set_cons_zero, List.set_cons_succ]
                refine wpAnyH_take (i := 27) (v := ?_) rfl (by kernel_rfl) (by kernel_rfl) (by kernel_rfl) (fun _ _ _ h => h) (Or.inl ⟨by rfl, ?_⟩) (by assumption) ?_
                rotate_left 1
                · (intro w hSw; (try dsimp only at hSw); (go_simp <;> with_reducible rfl))
                try simp only [Act.put, List.setIfInBounds_toArray, List.set_cons_zero, List.set_cons_succ]
                refine wpAnyH_ready (rs := [9]) (by kernel_rfl) (by simp) ?_
                refine AllReadyH.cons rfl (fun K hK => ?_) AllReadyH.nil
                try clear hHeld
                go_simp
                refine hK.out _ _ ?_ (fun hHeld => ?_)
                · (try dsimp only)
                  (first | exact ⟨kS _ HPL.out.1 HPL.out.2, m1⟩ | exact ⟨kS _ (blk_below HP0.out (by repeat (first | exact below_refl _ | apply below_alloc' | apply below_drew'))) (blk_below HP1.out (by repeat (first | exact below_refl _ | apply below_alloc' | apply below_drew'))), below_cell (w := wq) (by repeat (first | exact below_refl _ | apply below_alloc' | apply below_drew')) c1⟩)
                clear hK K
                try simp only [Act.put, List.setIfInBounds_toArray, List.set_cons_zero, List.set_cons_succ]
                refine wpAnyH_take (i := 10) (v := ?_) rfl (by kernel_rfl) (by kernel_rfl) (by kernel_rfl) (fun _ _ _ h => h) (Or.inl ⟨by rfl, ?_⟩) (by assumption) ?_
                rotate_left 1
                · (intro w hSw; (try dsimp only at hSw); (go_simp <;> with_reducible rfl))
                try simp only [Act.put, List.setIfInBounds_toArray, List.set_cons_zero, List.set_cons_succ]
                refine wpAnyH_ready (rs := [11]) (by kernel_rfl) (by simp) ?_
                refine AllReadyH.cons rfl (fun K hK => ?_) AllReadyH.nil
                try clear hHeld
                go_simp
                refine hK.out _ _ ?_ (fun hHeld => ?_)
                · (try dsimp only)
                  (first | exact ⟨kS _ HPL.out.1 HPL.out.2, m1⟩ | exact ⟨kS _ (blk_below HP0.out (by repeat (first | exact below_refl _ | apply below_alloc' | apply below_drew'))) (blk_below HP1.out (by repeat (first | exact below_refl _ | apply below_alloc' | apply below_drew'))), below_cell (w := wq) (by repeat (first | exact below_refl _ | apply below_alloc' | apply below_drew')) c1⟩)
                clear hK K
                try simp only [Act.put, List.setIfInBounds_toArray, List.set_cons_zero, List.set_cons_succ]
                refine wpAnyH_take (i := 12) (v := ?_) rfl (by kernel_rfl) (by kernel_rfl) (by kernel_rfl) (fun _ _ _ h => h) (Or.inl ⟨by rfl, ?_⟩) (by assumption) ?_
                rotate_left 1
                · (intro w hSw; (try dsimp only at hSw); (go_simp <;> with_reducible rfl))
                try simp only [Act.put, List.setIfInBounds_toArray, List.set_cons_zero, List.set_cons_succ]
                refine wpAnyH_ready (rs := [30]) (by kernel_rfl) (by simp) ?_
                refine AllReadyH.cons rfl (fun K hK => ?_) AllReadyH.nil
                try clear hHeld
                go_simp
                refine hK.out _ _ ?_ (fun hHeld => ?_)
                · (try dsimp only)
                  (first | exact ⟨kS _ HPL.out.1 HPL.out.2, m1⟩ | exact ⟨kS _ (blk_below HP0.out (by repeat (first | exact below_refl _ | apply below_alloc' | apply below_drew'))) (blk_below HP1.out (by repeat (first | exact below_refl _ | apply below_alloc' | apply below_drew'))), below_cell (w := wq) (by repeat (first | exact below_refl _ | apply below_alloc' | apply below_drew')) c1⟩)
                clear hK K
                try simp only [Act.put, List.setIfInBounds_toArray, List.set_cons_zero, List.set_cons_succ]
                refine wpAnyH_ready (rs := [31]) (by kernel_rfl) (by simp) ?_
                refine AllReadyH.cons rfl (fun K hK => ?_) AllReadyH.nil
                try clear hHeld
                ((refine step_append_list (d := NR) (base := w4.heap.size) (by rfl) _ _ 38 37 _ 96 (by rfl) Try.underlying38 infoNd (by rfl) (by show 0 < 10; decide) (v := (.slice Ai (3 * i) ki)) (xs := (rgIn k r i)) (by rfl) (OI.out.below (by repeat (first | exact below_refl _ | apply below_alloc' | apply below_drew'))) [rgA k r i, rgB' k r i, rgC i] [nodCs (rgA k r i) (.slice (some ⟨wq.heap.size + 3, 0, none⟩) 1 1), nodCs (rgB' k r i) (.slice (some ⟨wq.heap.size + 1, 0, none⟩) 1 1), nodCs (rgC i) (.slice none 0 0)] rfl (hy3 (nodT_hy (x := rgA k r i) (sp := (i : Int)) (cj := 0) (kids := [3 * (i : Int) + 1]) (n := 1) (p := wq.heap.size + 2) (q := wq.heap.size + 3) (arr := #[.int .i64 (3 * (i : Int) + 1)]) rfl rfl (by decide) (by exact al5_2 wq (Obj.cells #[.int .i64 (3 * (((i : Int) + 1) % (k : Int))), .int .i64 (3 * (i : Int) + 2)] 3) (Obj.cells #[.int .i64 0, .int .i64 0, .slice (some ⟨wq.heap.size + 0, 0, none⟩) 2 2] 51) (Obj.cells #[.int .i64 (3 * (i : Int) + 1)] 3) (Obj.cells #[.int .i64 (i : Int), .int .i64 0, .slice (some ⟨wq.heap.size + 2, 0, none⟩) 1 1] 51) (Obj.cells #[.bool true, .int .i64 0, .int .i64 (i : Int), .int .i64 0, .int .i64 0, .int .i64 0, .int .i64 0, .int .i64 0, .int .i64 (3 * ((k : Int) - i) + r + 3), .slice (some ⟨wq.heap.size + 3, 0, none⟩) 1 1, .bool true, .int .i64 1, .int .i64 0, .int .i64 (i : Int), .int .i64 0, .int .i64 0, .int .i64 0, .int .i64 0, .int .i64 (3 * ((k : Int) - i) + r + 2), .slice (some ⟨wq.heap.size + 1, 0, none⟩) 1 1, .bool true, .int .i64 1, .int .i64 0, .int .i64 (i : Int), .int .i64 0, .int .i64 1, .int .i64 0, .int .i64 0, .int .i64 1, .slice none 0 0] 37)) rfl (by exact al5_3 wq (Obj.cells #[.int .i64 (3 * (((i : Int) + 1) % (k : Int))), .int .i64 (3 * (i : Int) + 2)] 3) (Obj.cells #[.int .i64 0, .int .i64 0, .slice (some ⟨wq.heap.size + 0, 0, none⟩) 2 2] 51) (Obj.cells #[.int .i64 (3 * (i : Int) + 1)] 3) (Obj.cells #[.int .i64 (i : Int), .int .i64 0, .slice (some ⟨wq.heap.size + 2, 0, none⟩) 1 1] 51) (Obj.cells #[.bool true, .int .i64 0, .int .i64 (i : Int), .int .i64 0, .int .i64 0, .int .i64 0, .int .i64 0, .int .i64 0, .int .i64 (3 * ((k : Int) - i) + r + 3), .slice (some ⟨wq.heap.size + 3, 0, none⟩) 1 1, .bool true, .int .i64 1, .int .i64 0, .int .i64 (i : Int), .int .i64 0, .int .i64 0, .int .i64 0, .int .i64 0, .int .i64 (3 * ((k : Int) - i) + r + 2), .slice (some ⟨wq.heap.size + 1, 0, none⟩) 1 1, .bool true, .int .i64 1, .int .i64 0, .int .i64 (i : Int), .int .i64 0, .int .i64 1, .int .i64 0, .int .i64 0, .int .i64 1, .slice none 0 0] 37)) (HSQ.out _ (by omega)) (HSQ.out _ (by omega))) (nodT_hy (x := rgB' k r i) (sp := 0) (cj := 0) (kids := [3 * (((i : Int) + 1) % (k : Int)), 3 * (i : Int) + 2]) (n := 2) (p := wq.heap.size + 0) (q := wq.heap.size + 1) (arr := #[.int .i64 (3 * (((i : Int) + 1) % (k : Int))), .int .i64 (3 * (i : Int) + 2)]) rfl rfl (by decide) (by exact al5_0 wq (Obj.cells #[.int .i64 (3 * (((i : Int) + 1) % (k : Int))), .int .i64 (3 * (i : Int) + 2)] 3) (Obj.cells #[.int .i64 0, .int .i64 0, .slice (some ⟨wq.heap.size + 0, 0, none⟩) 2 2] 51) (Obj.cells #[.int .i64 (3 * (i : Int) + 1)] 3) (Obj.cells #[.int .i64 (i : Int), .int .i64 0, .slice (some ⟨wq.heap.size + 2, 0, none⟩) 1 1] 51) (Obj.cells #[.bool true, .int .i64 0, .int .i64 (i : Int), .int .i64 0, .int .i64 0, .int .i64 0, .int .i64 0, .int .i64 0, .int .i64 (3 * ((k : Int) - i) + r + 3), .slice (some ⟨wq.heap.size + 3, 0, none⟩) 1 1, .bool true, .int .i64 1, .int .i64 0, .int .i64 (i : Int), .int .i64 0, .int .i64 0, .int .i64 0, .int .i64 0, .int .i64 (3 * ((k : Int) - i) + r + 2), .slice (some ⟨wq.heap.size + 1, 0, none⟩) 1 1, .bool true, .int .i64 1, .int .i64 0, .int .i64 (i : Int), .int .i64 0, .int .i64 1, .int .i64 0, .int .i64 0, .int .i64 1, .slice none 0 0] 37)) rfl (by exact al5_1 wq (Obj.cells #[.int .i64 (3 * (((i : Int) + 1) % (k : Int))), .int .i64 (3 * (i : Int) + 2)] 3) (Obj.cells #[.int .i64 0, .int .i64 0, .slice (some ⟨wq.heap.size + 0, 0, none⟩) 2 2] 51) (Obj.cells #[.int .i64 (3 * (i : Int) + 1)] 3) (Obj.cells #[.int .i64 (i : Int), .int .i64 0, .slice (some ⟨wq.heap.size + 2, 0, none⟩) 1 1] 51) (Obj.cells #[.bool true, .int .i64 0, .int .i64 (i : Int), .int .i64 0, .int .i64 0, .int .i64 0, .int .i64 0, .int .i64 0, .int .i64 (3 * ((k : Int) - i) + r + 3), .slice (some ⟨wq.heap.size + 3, 0, none⟩) 1 1, .bool true, .int .i64 1, .int .i64 0, .int .i64 (i : Int), .int .i64 0, .int .i64 0, .int .i64 0, .int .i64 0, .int .i64 (3 * ((k : Int) - i) + r + 2), .slice (some ⟨wq.heap.size + 1, 0, none⟩) 1 1, .bool true, .int .i64 1, .int .i64 0, .int .i64 (i : Int), .int .i64 0, .int .i64 1, .int .i64 0, .int .i64 0, .int .i64 1, .slice none 0 0] 37)) (HSQ.out _ (by omega)) (HSQ.out _ (by omega))) (nodT_hy0 rfl)) (b := wq.heap.size + 4) (arr := #[.bool true, .int .i64 0, .int .i64 (i : Int), .int .i64 0, .int .i64 0, .int .i64 0, .int .i64 0, .int .i64 0, .int .i64 (3 * ((k : Int) - i) + r + 3), .slice (some ⟨wq.heap.size + 3, 0, none⟩) 1 1, .bool true, .int .i64 1, .int .i64 0, .int .i64 (i : Int), .int .i64 0, .int .i64 0, .int .i64 0, .int .i64 0, .int .i64 (3 * ((k : Int) - i) + r + 2), .slice (some ⟨wq.heap.size + 1, 0, none⟩) 1 1, .bool true, .int .i64 1, .int .i64 0, .int .i64 (i : Int), .int .i64 0, .int .i64 1, .int .i64 0, .int .i64 0, .int .i64 1, .slice none 0 0]) (by rfl) (by exact al5_4 wq (Obj.cells #[.int .i64 (3 * (((i : Int) + 1) % (k : Int))), .int .i64 (3 * (i : Int) + 2)] 3) (Obj.cells #[.int .i64 0, .int .i64 0, .slice (some ⟨wq.heap.size + 0, 0, none⟩) 2 2] 51) (Obj.cells #[.int .i64 (3 * (i : Int) + 1)] 3) (Obj.cells #[.int .i64 (i : Int), .int .i64 0, .slice (some ⟨wq.heap.size + 2, 0, none⟩) 1 1] 51) (Obj.cells #[.bool true, .int .i64 0, .int .i64 (i : Int), .int .i64 0, .int .i64 0, .int .i64 0, .int .i64 0, .int .i64 0, .int .i64 (3 * ((k : Int) - i) + r + 3), .slice (some ⟨wq.heap.size + 3, 0, none⟩) 1 1, .bool true, .int .i64 1, .int .i64 0, .int .i64 (i : Int), .int .i64 0, .int .i64 0, .int .i64 0, .int .i64 0, .int .i64 (3 * ((k : Int) - i) + r + 2), .slice (some ⟨wq.heap.size + 1, 0, none⟩) 1 1, .bool true, .int .i64 1, .int .i64 0, .int .i64 (i : Int), .int .i64 0, .int .i64 1, .int .i64 0, .int .i64 0, .int .i64 1, .slice none 0 0] 37)) (by rfl) (by rw [rgIn_len]; simp; omega) (by decide) (by have := HSZ.out; simp; omega) ?_); intro v6 w6 o6 g6 t6; obtain ⟨A6, k6, ev6, -, -, -⟩ := id o6.shape; rw [HLI.out] at ev6; subst ev6; have q6 := blk_grown (blk_below C1.out (by repeat (first | exact below_refl _ | apply below_alloc' | apply below_drew'))) g6 (fun e => by have := (OI.out.base e.symm).1; have := HBS.out; omega); have m0 : w6.cell? ⟨bg + 1, 0, none⟩ = some (.int .i64 0) := blk_cell q6 0; have m1 : w6.cell? ⟨bg + 1, 1, none⟩ = some (.slice Ai (3 * i) ki) := blk_cell q6 1; have f1 : w6.frozen? ⟨bg + 1, 1, none⟩ = false := blk_frozen q6 1; have HPL := Lib.hid (HPG.out _ w6 (by repeat (first | exact below_refl _ | apply below_alloc' | apply below_drew')) g6); have HZ := Lib.hid (rg2_in (i' := i + 1) HBS.out (blk_below C1.out (by repeat (first | exact below_refl _ | apply below_alloc' | apply below_drew'))) (blk_below C2.out (by repeat (first | exact below_refl _ | apply below_alloc' | apply below_drew'))) (OI.out.below (by repeat (first | exact below_refl _ | apply below_alloc' | apply below_drew'))) (OO.out.below (by repeat (first | exact below_refl _ | apply below_alloc' | apply below_drew'))) HNE.out (HU.out.trans (Upd.of_below (by repeat (first | exact below_refl _ | apply below_alloc' | apply below_drew')))) RIS.out o6 g6 t6); clear o6 g6 t6 q6)
                refine hK.out _ _ ?_ (fun hHeld => ?_)
                · (try dsimp only)
                  (first | exact ⟨kS _ HPL.out.1 HPL.out.2, m1⟩ | exact ⟨kS _ (blk_below HP0.out (by repeat (first | exact below_refl _ | apply below_alloc' | apply below_drew'))) (blk_below HP1.out (by repeat (first | exact below_refl _ | apply below_alloc' | apply below_drew'))), below_cell (w := wq) (by repeat (first | exact below_refl _ | apply below_alloc' | apply below_drew')) c1⟩)
                clear hK K
                try simp only [Act.put, List.setIfInBounds_toArray, List.set_cons_zero, List.set_cons_succ]
                refine wpAnyH_take (i := 32) (v := ?_) rfl (by kernel_rfl) (by kernel_rfl) (by kernel_rfl) (fun _ _ _ h => h) (Or.inl ⟨by rfl, ?_⟩) (by assumption) ?_
                rotate_left 1
                · (intro w hSw; (try dsimp only at hSw); (go_simp <;> with_reducible rfl))
                try simp only [Act.put, List.setIfInBounds_toArray, List.set_cons_zero, List.set_cons_succ]
                refine wpAnyH_done (by kernel_rfl) ?_ _
                refine lastQ_normal rfl (fun K hK => ?_)
                go_simp
                refine hK.out _ _ ?_
                clear hK K
                try simp only [Act.put, List.setIfInBounds_toArray, List.set_cons_zero, List.set_cons_succ]
                go_wp2_with fail
                go_meet
                first
                  | exact ⟨rfl, HZ.out, set_keep HPL.out.1 (by simp only; omega)⟩
                  | exact ⟨rfl, rg2_below HZ.out (below_drew' (below_refl _)), set_keep HPL.out.1 (by simp only; omega)⟩
            --E17
          case rest =>
            obtain ⟨rfl, ⟨vi', vo', h1, h2, hI, hO, hne, hu⟩, hpp⟩ := hcut
            clear C1 C2 OI OO HNE HU HP0 HP1 HSZ HSQ HPG RIS HLI c1 c10 lb c1a c1b c1c c1d c1e kS
            obtain ⟨w7, hw7⟩ : ∃ w7, w7 = wc := ⟨_, rfl⟩
            rw [← hw7] at h1 h2 hI hO hu hpp ⊢
            clear hw7 wc
            obtain ⟨Ao, ko, rfl, -, -, -⟩ := id hO.shape
            rw [rgOut_len] at h2 hO hne
            have C1 := Lib.hid h1
            have C2 := Lib.hid h2
            have OI := Lib.hid hI
            have OO := Lib.hid hO
            have HNE := Lib.hid hne
            have HU := Lib.hid hu
            have HPP := Lib.hid hpp
            have HSZ := Lib.hid (show w4.heap.size ≤ w7.heap.size from hu.size)
            have HSQ := Lib.hid (show ∀ p, w7.heap.size ≤ p → ¬ (p < w4.heap.size ∨ (Value.slice Ao (2 * i) ko).ownBlock = some p) from fun p hp => by
              rintro (h | h)
              · have := HSZ.out; omega
              · have := (OO.out.base h).2; omega)
            have HPG := Lib.hid (show ∀ (W w6 : World), Below w7.heap.size w7 W → W.grownBy w6 (Value.slice Ao (2 * i) ko).ownBlock → w6.heap[pb]? = some (plO i 0) from fun W w6 hW hg =>
              blk_grown (blk_below HPP.out hW) hg (fun e => by
                obtain ⟨cur, hc⟩ := own_block_type OO.out e.symm
                exact blk_type_ne HPP.out hc (by decide) rfl))
            have HLO := Lib.hid (show (rgOut k i ++ [rgD i, rgE' k i]).length = 2 * i + 2 by simp [rgOut_len])
            have c1 : w7.cell? ⟨bg + 2, 1, none⟩ = some (.slice Ao (2 * i) ko) := blk_cell C2.out 1
            have lb : bg + 2 < w7.heap.size := blk_lt C2.out
            have c1f : ∀ wz, Below w7.heap.size w7 wz → wz.cell? ⟨bg + 2, 1, none⟩ = some (.slice Ao (2 * i) ko) := fun wz hz => below_cell hz c1
            have c1a : ∀ o, (w7.alloc o).cell? ⟨bg + 2, 1, none⟩ = some (.slice Ao (2 * i) ko) := fun o => c1f _ (below_alloc' (below_refl w7) o)
            have c1b : ∀ o o', ((w7.alloc o).alloc o').cell? ⟨bg + 2, 1, none⟩ = some (.slice Ao (2 * i) ko) := fun o o' => c1f _ (below_alloc' (below_alloc' (below_refl w7) o) o')
            have c1c : ∀ o o' o2, (((w7.alloc o).alloc o').alloc o2).cell? ⟨bg + 2, 1, none⟩ = some (.slice Ao (2 * i) ko) := fun o o' o2 => c1f _ (below_alloc' (below_alloc' (below_alloc' (below_refl w7) o) o') o2)
            have c1d : ∀ o o' o2 o3, ((((w7.alloc o).alloc o').alloc o2).alloc o3).cell? ⟨bg + 2, 1, none⟩ = some (.slice Ao (2 * i) ko) := fun o o' o2 o3 => c1f _ (below_alloc' (below_alloc' (below_alloc' (below_alloc' (below_refl w7) o) o') o2) o3)
            have c1e : ∀ o o' o2 o3 o4, (((((w7.alloc o).alloc o').alloc o2).alloc o3).alloc o4).cell? ⟨bg + 2, 1, none⟩ = some (.slice Ao (2 * i) ko) := fun o o' o2 o3 o4 => c1f _ (below_alloc' (below_alloc' (below_alloc' (below_alloc' (below_alloc' (below_refl w7) o) o') o2) o3) o4)
            have kS : ∀ wz : World, wz.heap[pb]? = some (plO i 0) → wz.cell? ⟨pb, 0, none⟩ = some (.int .i64 i) ∧ wz.cell? ⟨pb, 1, none⟩ = some (.int .i64 0) ∧ wz.cell? ⟨pb, 2, none⟩ = some (.int .i64 0) := fun wz h => ⟨blk_cell h 0, blk_cell h 1, blk_cell h 2⟩
            clear h1 h2 hI hO hne hu hpp c1f
            go_upto_region 18 with fail
            --R18
            have hk0n : (k = 0) = False := eq_false (by omega)
            have hme := Int.emod_nonneg ((i : Int) + 1) (show (k : Int) ≠ 0 by omega)
            have hml := Int.emod_lt_of_pos ((i : Int) + 1) (show (0 : Int) < (k : Int) by omega)
            have hw1 : IntKind.i64.wrap (2 * (i : Int)) = 2 * (i : Int) := IntWalk.i64_in _ (by omega)
            have hw2 : IntKind.i64.wrap (2 * (i : Int) + 1) = 2 * (i : Int) + 1 := IntWalk.i64_in _ (by omega)
            have hw3 : IntKind.i64.wrap ((i : Int) + 1) = (i : Int) + 1 := IntWalk.i64_in _ (by omega)
            have hw4 : ((i : Int) + 1).tmod (k : Int) = ((i : Int) + 1) % (k : Int) := Int.tmod_eq_emod_of_nonneg (by omega)
            have hw5 : IntKind.i64.wrap (2 * (((i : Int) + 1) % (k : Int))) = 2 * (((i : Int) + 1) % (k : Int)) := IntWalk.i64_in _ (by omega)
            clear hme hml
            refine wp_region_last (n := 24) (S := (fun w' => (w'.cell? ⟨pb, 0, none⟩ = some (.int .i64 i) ∧ w'.cell? ⟨pb, 1, none⟩ = some (.int .i64 0) ∧ w'.cell? ⟨pb, 2, none⟩ = some (.int .i64 0)) ∧ w'.cell? ⟨bg + 2, 1, none⟩ = some (.slice Ao (2 * i) ko))) (by kernel_rfl) (by rfl) (by kernel_rfl) rfl ?_ (fun hHeld => ?_)
            · (try dsimp only)
              (first | exact ⟨kS _ HPL.out, m1⟩ | exact ⟨kS _ (blk_below HPP.out (by repeat (first | exact below_refl _ | apply below_alloc' | apply below_drew'))), below_cell (w := w7) (by repeat (first | exact below_refl _ | apply below_alloc' | apply below_drew')) c1⟩)
            try simp only [List.pop_toArray, List.dropLast_cons_cons, List.dropLast_singleton, List.dropLast]
            refine wpAnyH_take (i := 0) (v := ?_) rfl (by kernel_rfl) (by kernel_rfl) (by kernel_rfl) (fun _ _ _ h => h) (Or.inl ⟨by rfl, ?_⟩) (by assumption) ?_
            rotate_left 1
            · (intro w hSw; (try dsimp only at hSw); (go_simp <;> with_reducible rfl))
            try simp only [Act.put, List.setIfInBounds_toArray, List.set_cons_zero, List.set_cons_succ]
            refine wpAnyH_take (i := 1) (v := ?_) rfl (by kernel_rfl) (by kernel_rfl) (by kernel_rfl) (fun _ _ _ h => h) (Or.inl ⟨by rfl, ?_⟩) (by assumption) ?_
            rotate_left 1
            · (intro w hSw; (try dsimp only at hSw); (go_simp <;> with_reducible rfl))
            try simp only [Act.put, List.setIfInBounds_toArray, List.set_cons_zero, List.set_cons_succ]
            refine wpAnyH_take (i := 2) (v := ?_) rfl (by kernel_rfl) (by kernel_rfl) (by kernel_rfl) (fun _ _ _ h => h) (Or.inl ⟨by rfl, ?_⟩) (by assumption) ?_
            rotate_left 1
            · (intro w hSw; (try dsimp only at hSw); (go_simp <;> with_reducible rfl))
            try simp only [Act.put, List.setIfInBounds_toArray, List.set_cons_zero, List.set_cons_succ]
            refine wpAnyH_take (i := 3) (v := ?_) rfl (by kernel_rfl) (by kernel_rfl) (by kernel_rfl) (fun _ _ _ h => h) (Or.inl ⟨by rfl, ?_⟩) (by assumption) ?_
            rotate_left 1
            · (intro w hSw; (try dsimp only at hSw); (go_simp <;> with_reducible rfl))
            try simp only [Act.put, List.setIfInBounds_toArray, List.set_cons_zero, List.set_cons_succ]
            refine wpAnyH_take (i := 4) (v := ?_) rfl (by kernel_rfl) (by kernel_rfl) (by kernel_rfl) (fun _ _ _ h => h) (Or.inl ⟨by rfl, ?_⟩) (by assumption) ?_
            rotate_left 1
            · (intro w hSw; (try dsimp only at hSw); (go_simp <;> with_reducible rfl))
            try simp only [Act.put, List.setIfInBounds_toArray, List.set_cons_zero, List.set_cons_succ]
            refine wpAnyH_take (i := 5) (v := ?_) rfl (by kernel_rfl) (by kernel_rfl) (by kernel_rfl) (fun _ _ _ h => h) (Or.inl ⟨by rfl, ?_⟩) (by assumption) ?_
            rotate_left 1
            · (intro w hSw; (try dsimp only at hSw); (go_simp <;> with_reducible rfl))
            try simp only [Act.put, List.setIfInBounds_toArray, List.set_cons_zero, List.set_cons_succ]
            refine wpAnyH_take (i := 6) (v := ?_) rfl (by kernel_rfl) (by kernel_rfl) (by kernel_rfl) (fun _ _ _ h => h) (Or.inl ⟨by rfl, ?_⟩) (by assumption) ?_
            rotate_left 1
            · (intro w hSw; (try dsimp only at hSw); (go_simp <;> with_reducible rfl))
            try simp only [Act.put, List.setIfInBounds_toArray, List.set_cons_zero, List.set_cons_succ]
            refine wpAnyH_take (i := 11) (v := ?_) rfl (by kernel_rfl) (by kernel_rfl) (by kernel_rfl) (fun _ _ _ h => h) (Or.inl ⟨by rfl, ?_⟩) (by assumption) ?_
            rotate_left 1
            · (intro w hSw; (try dsimp only at hSw); (go_simp <;> with_reducible rfl))
            try simp only [Act.put, List.setIfInBounds_toArray, List.set_cons_zero, List.set_cons_succ]
            refine wpAnyH_take (i := 12) (v := ?_) rfl (by kernel_rfl) (by kernel_rfl) (by kernel_rfl) (fun _ _ _ h => h) (Or.inl ⟨by rfl, ?_⟩) (by assumption) ?_
            rotate_left 1
            · (intro w hSw; (try dsimp only at hSw); (go_simp <;> with_reducible rfl))
            try simp only [Act.put, List.setIfInBounds_toArray, List.set_cons_zero, List.set_cons_succ]
            refine wpAnyH_take (i := 13) (v := ?_) rfl (by kernel_rfl) (by kernel_rfl) (by kernel_rfl) (fun _ _ _ h => h) (Or.inl ⟨by rfl, ?_⟩) (by assumption) ?_
            rotate_left 1
            · (intro w hSw; (try dsimp only at hSw); (go_simp <;> with_reducible rfl))
            try simp only [Act.put, List.setIfInBounds_toArray, List.set_cons_zero, List.set_cons_succ]
            refine wpAnyH_take (i := 14) (v := ?_) rfl (by kernel_rfl) (by kernel_rfl) (by kernel_rfl) (fun _ _ _ h => h) (Or.inl ⟨by rfl, ?_⟩) (by assumption) ?_
            rotate_left 1
            · (intro w hSw; (try dsimp only at hSw); (go_simp <;> with_reducible rfl))
            try simp only [Act.put, List.setIfInBounds_toArray, List.set_cons_zero, List.set_cons_succ]
            refine wpAnyH_take (i := 15) (v := ?_) rfl (by kernel_rfl) (by kernel_rfl) (by kernel_rfl) (fun _ _ _ h => h) (Or.inl ⟨by rfl, ?_⟩) (by assumption) ?_
            rotate_left 1
            · (intro w hSw; (try dsimp only at hSw); (go_simp <;> with_reducible rfl))
            try simp only [Act.put, List.setIfInBounds_toArray, List.set_cons_zero, List.set_cons_succ]
            refine wpAnyH_take (i := 16) (v := ?_) rfl (by kernel_rfl) (by kernel_rfl) (by kernel_rfl) (fun _ _ _ h => h) (Or.inl ⟨by rfl, ?_⟩) (by assumption) ?_
            rotate_left 1
            · (intro w hSw; (try dsimp only at hSw); (go_simp <;> with_reducible rfl))
            try simp only [Act.put, List.setIfInBounds_toArray, List.set_cons_zero, List.set_cons_succ]
            refine wpAnyH_ready (rs := [7, 17]) (by kernel_rfl) (by simp) ?_
            refine AllReadyH.cons rfl (fun K hK => ?_) (AllReadyH.cons rfl (fun K hK => ?_) AllReadyH.nil)
            ·
              try clear hHeld
              go_simp
              refine hK.out _ _ ?_ (fun hHeld => ?_)
              · (try dsimp only)
                (first | exact ⟨kS _ HPL.out, m1⟩ | exact ⟨kS _ (blk_below HPP.out (by repeat (first | exact below_refl _ | apply below_alloc' | apply below_drew'))), below_cell (w := w7) (by repeat (first | exact below_refl _ | apply below_alloc' | apply below_drew')) c1⟩)
              clear hK K
              try simp only [Act.put, List.setIfInBounds_toArray, List.set_cons_zero, List.set_cons_succ]
              refine wpAnyH_take (i := 8) (v := ?_) rfl (by kernel_rfl) (by kernel_rfl) (by kernel_rfl) (fun _ _ _ h => h) (Or.inl ⟨by rfl, ?_⟩) (by assumption) ?_
              rotate_left 1
              · (intro w hSw; (try dsimp only at hSw); (go_simp <;> with_reducible rfl))
              try simp only [Act.put, List.setIfInBounds_toArray, List.set_cons_zero, List.set_cons_succ]
              refine wpAnyH_ready (rs := [9, 17]) (by kernel_rfl) (by simp) ?_
              refine AllReadyH.cons rfl (fun K hK => ?_) (AllReadyH.cons rfl (fun K hK => ?_) AllReadyH.nil)
              ·
                try clear hHeld
                go_simp
                refine hK.out _ _ ?_ (fun hHeld => ?_)
                · (try dsimp only)
                  (first | exact ⟨kS _ HPL.out, m1⟩ | exact ⟨kS _ (blk_below HPP.out (by repeat (first | exact below_refl _ | apply below_alloc' | apply below_drew'))), below_cell (w := w7) (by repeat (first | exact below_refl _ | apply below_alloc' | apply below_drew')) c1⟩)
                clear hK K
                try simp only [Act.put, List.setIfInBounds_toArray, List.set_cons_zero, List.set_cons_succ]
                refine wpAnyH_take (i := 10) (v := ?_) rfl (by kernel_rfl) (by kernel_rfl) (by kernel_rfl) (fun _ _ _ h => h) (Or.inl ⟨by rfl, ?_⟩) (by assumption) ?_
                rotate_left 1
                · (intro w hSw; (try dsimp only at hSw); (go_simp <;> with_reducible rfl))
                try simp only [Act.put, List.setIfInBounds_toArray, List.set_cons_zero, List.set_cons_succ]
                refine wpAnyH_ready (rs := [17]) (by kernel_rfl) (by simp) ?_
                refine AllReadyH.cons rfl (fun K hK => ?_) AllReadyH.nil
                try clear hHeld
                go_simp
                refine hK.out _ _ ?_ (fun hHeld => ?_)
                · (try dsimp only)
                  (first | exact ⟨kS _ HPL.out, m1⟩ | exact ⟨kS _ (blk_below HPP.out (by repeat (first | exact below_refl _ | apply below_alloc' | apply below_drew'))), below_cell (w := w7) (by repeat (first | exact below_refl _ | apply below_alloc' | apply below_drew')) c1⟩)
                clear hK K
                try simp only [Act.put, List.setIfInBounds_toArray, List.set_cons_zero, List.set_cons_succ]
                refine wpAnyH_take (i := 18) (v := ?_) rfl (by kernel_rfl) (by kernel_rfl) (by kernel_rfl) (fun _ _ _ h => h) (Or.inl ⟨by rfl, ?_⟩) (by assumption) ?_
                rotate_left 1
                · (intro w hSw; (try dsimp only at hSw); (go_simp <;> with_reducible rfl))
                try simp only [Act.put, List.setIfInBounds_toArray, List.set_cons_zero, List.set_cons_succ]
                refine wpAnyH_ready (rs := [19]) (by kernel_rfl) (by simp) ?_
                refine AllReadyH.cons rfl (fun K hK => ?_) AllReadyH.nil
                try clear hHeld
                go_simp
                refine hK.out _ _ ?_ (fun hHeld => ?_)
                · (try dsimp only)
                  (first | exact ⟨kS _ HPL.out, m1⟩ | exact ⟨kS _ (blk_below HPP.out (by repeat (first | exact below_refl _ | apply below_alloc' | apply below_drew'))), below_cell (w := w7) (by repeat (first | exact below_refl _ | apply below_alloc' | apply below_drew')) c1⟩)
                clear hK K
                try simp only [Act.put, List.setIfInBounds_toArray, List.set_cons_zero, List.set_cons_succ]
                refine wpAnyH_take (i := 20) (v := ?_) rfl (by kernel_rfl) (by kernel_rfl) (by kernel_rfl) (fun _ _ _ h => h) (Or.inl ⟨by rfl, ?_⟩) (by assumption) ?_
                rotate_left 1
                · (intro w hSw; (try dsimp only at hSw); (go_simp <;> with_reducible rfl))
                try simp only [Act.put, List.setIfInBounds_toArray, List.set_cons_zero, List.set_cons_succ]
                refine wpAnyH_ready (rs := [21]) (by kernel_rfl) (by simp) ?_
                refine AllReadyH.cons rfl (fun K hK => ?_) AllReadyH.nil
                try clear hHeld
                go_simp
                refine hK.out _ _ ?_ (fun hHeld => ?_)
                · (try dsimp only)
                  (first | exact ⟨kS _ HPL.out, m1⟩ | exact ⟨kS _ (blk_below HPP.out (by repeat (first | exact below_refl _ | apply below_alloc' | apply below_drew'))), below_cell (w := w7) (by repeat (first | exact below_refl _ | apply below_alloc' | apply below_drew')) c1⟩)
                clear hK K
                try simp only [Act.put, List.setIfInBounds_toArray, List.set_cons_zero, List.set_cons_succ]
                refine wpAnyH_ready (rs := [22]) (by kernel_rfl) (by simp) ?_
                refine AllReadyH.cons rfl (fun K hK => ?_) AllReadyH.nil
                try clear hHeld
                ((refine step_append_list (d := NR) (base := w4.heap.size) (by rfl) _ _ 38 37 _ 96 (by rfl) Try.underlying38 infoNd (by rfl) (by show 0 < 10; decide) (v := (.slice Ao (2 * i) ko)) (xs := (rgOut k i)) (by rfl) (OO.out.below (by repeat (first | exact below_refl _ | apply below_alloc' | apply below_drew'))) [rgD i, rgE' k i] [nodCs (rgD i) (.slice (some ⟨w7.heap.size + 1, 0, none⟩) 1 1), nodCs (rgE' k i) (.slice (some ⟨w7.heap.size + 3, 0, none⟩) 1 1)] rfl (hy2 (nodT_hy (x := rgD i) (sp := (i : Int)) (cj := 0) (kids := [2 * (i : Int) + 1]) (n := 1) (p := w7.heap.size + 0) (q := w7.heap.size + 1) (arr := #[.int .i64 (2 * (i : Int) + 1)]) rfl rfl (by decide) (by exact al5_0 w7 (Obj.cells #[.int .i64 (2 * (i : Int) + 1)] 3) (Obj.cells #[.int .i64 (i : Int), .int .i64 0, .slice (some ⟨w7.heap.size + 0, 0, none⟩) 1 1] 51) (Obj.cells #[.int .i64 (2 * (((i : Int) + 1) % (k : Int)))] 3) (Obj.cells #[.int .i64 0, .int .i64 0, .slice (some ⟨w7.heap.size + 2, 0, none⟩) 1 1] 51) (Obj.cells #[.bool false, .int .i64 0, .int .i64 (i : Int), .int .i64 0, .int .i64 0, .int .i64 0, .int .i64 0, .int .i64 0, .int .i64 0, .slice (some ⟨w7.heap.size + 1, 0, none⟩) 1 1, .bool false, .int .i64 1, .int .i64 0, .int .i64 (i : Int), .int .i64 0, .int .i64 0, .int .i64 0, .int .i64 0, .int .i64 0, .slice (some ⟨w7.heap.size + 3, 0, none⟩) 1 1] 37)) rfl (by exact al5_1 w7 (Obj.cells #[.int .i64 (2 * (i : Int) + 1)] 3) (Obj.cells #[.int .i64 (i : Int), .int .i64 0, .slice (some ⟨w7.heap.size + 0, 0, none⟩) 1 1] 51) (Obj.cells #[.int .i64 (2 * (((i : Int) + 1) % (k : Int)))] 3) (Obj.cells #[.int .i64 0, .int .i64 0, .slice (some ⟨w7.heap.size + 2, 0, none⟩) 1 1] 51) (Obj.cells #[.bool false, .int .i64 0, .int .i64 (i : Int), .int .i64 0, .int .i64 0, .int .i64 0, .int .i64 0, .int .i64 0, .int .i64 0, .slice (some ⟨w7.heap.size + 1, 0, none⟩) 1 1, .bool false, .int .i64 1, .int .i64 0, .int .i64 (i : Int), .int .i64 0, .int .i64 0, .int .i64 0, .int .i64 0, .int .i64 0, .slice (some ⟨w7.heap.size + 3, 0, none⟩) 1 1] 37)) (HSQ.out _ (by omega)) (HSQ.out _ (by omega))) (nodT_hy (x := rgE' k i) (sp := 0) (cj := 0) (kids := [2 * (((i : Int) + 1) % (k : Int))]) (n := 1) (p := w7.heap.size + 2) (q := w7.heap.size + 3) (arr := #[.int .i64 (2 * (((i : Int) + 1) % (k : Int)))]) rfl rfl (by decide) (by exact al5_2 w7 (Obj.cells #[.int .i64 (2 * (i : Int) + 1)] 3) (Obj.cells #[.int .i64 (i : Int), .int .i64 0, .slice (some ⟨w7.heap.size + 0, 0, none⟩) 1 1] 51) (Obj.cells #[.int .i64 (2 * (((i : Int) + 1) % (k : Int)))] 3) (Obj.cells #[.int .i64 0, .int .i64 0, .slice (some ⟨w7.heap.size + 2, 0, none⟩) 1 1] 51) (Obj.cells #[.bool false, .int .i64 0, .int .i64 (i : Int), .int .i64 0, .int .i64 0, .int .i64 0, .int .i64 0, .int .i64 0, .int .i64 0, .slice (some ⟨w7.heap.size + 1, 0, none⟩) 1 1, .bool false, .int .i64 1, .int .i64 0, .int .i64 (i : Int), .int .i64 0, .int .i64 0, .int .i64 0, .int .i64 0, .int .i64 0, .slice (some ⟨w7.heap.size + 3, 0, none⟩) 1 1] 37)) rfl (by exact al5_3 w7 (Obj.cells #[.int .i64 (2 * (i : Int) + 1)] 3) (Obj.cells #[.int .i64 (i : Int), .int .i64 0, .slice (some ⟨w7.heap.size + 0, 0, none⟩) 1 1] 51) (Obj.cells #[.int .i64 (2 * (((i : Int) + 1) % (k : Int)))] 3) (Obj.cells #[.int .i64 0, .int .i64 0, .slice (some ⟨w7.heap.size + 2, 0, none⟩) 1 1] 51) (Obj.cells #[.bool false, .int .i64 0, .int .i64 (i : Int), .int .i64 0, .int .i64 0, .int .i64 0, .int .i64 0, .int .i64 0, .int .i64 0, .slice (some ⟨w7.heap.size + 1, 0, none⟩) 1 1, .bool false, .int .i64 1, .int .i64 0, .int .i64 (i : Int), .int .i64 0, .int .i64 0, .int .i64 0, .int .i64 0, .int .i64 0, .slice (some ⟨w7.heap.size + 3, 0, none⟩) 1 1] 37)) (HSQ.out _ (by omega)) (HSQ.out _ (by omega)))) (b := w7.heap.size + 4) (arr := #[.bool false, .int .i64 0, .int .i64 (i : Int), .int .i64 0, .int .i64 0, .int .i64 0, .int .i64 0, .int .i64 0, .int .i64 0, .slice (some ⟨w7.heap.size + 1, 0, none⟩) 1 1, .bool false, .int .i64 1, .int .i64 0, .int .i64 (i : Int), .int .i64 0, .int .i64 0, .int .i64 0, .int .i64 0, .int .i64 0, .slice (some ⟨w7.heap.size + 3, 0, none⟩) 1 1]) (by rfl) (by exact al5_4 w7 (Obj.cells #[.int .i64 (2 * (i : Int) + 1)] 3) (Obj.cells #[.int .i64 (i : Int), .int .i64 0, .slice (some ⟨w7.heap.size + 0, 0, none⟩) 1 1] 51) (Obj.cells #[.int .i64 (2 * (((i : Int) + 1) % (k : Int)))] 3) (Obj.cells #[.int .i64 0, .int .i64 0, .slice (some ⟨w7.heap.size + 2, 0, none⟩) 1 1] 51) (Obj.cells #[.bool false, .int .i64 0, .int .i64 (i : Int), .int .i64 0, .int .i64 0, .int .i64 0, .int .i64 0, .int .i64 0, .int .i64 0, .slice (some ⟨w7.heap.size + 1, 0, none⟩) 1 1, .bool false, .int .i64 1, .int .i64 0, .int .i64 (i : Int), .int .i64 0, .int .i64 0, .int .i64 0, .int .i64 0, .int .i64 0, .slice (some ⟨w7.heap.size + 3, 0, none⟩) 1 1] 37)) (by rfl) (by rw [rgOut_len]; simp; omega) (by decide) (by have := HSZ.out; simp; omega) ?_); intro v6 w6 o6 g6 t6; obtain ⟨A6, k6, ev6, -, -, -⟩ := id o6.shape; rw [HLO.out] at ev6; subst ev6; have q6 := blk_grown (blk_below C2.out (by repeat (first | exact below_refl _ | apply below_alloc' | apply below_drew'))) g6 (fun e => by have := (OO.out.base e.symm).1; have := HBS.out; omega); have m0 : w6.cell? ⟨bg + 2, 0, none⟩ = some (.int .i64 0) := blk_cell q6 0; have m1 : w6.cell? ⟨bg + 2, 1, none⟩ = some (.slice Ao (2 * i) ko) := blk_cell q6 1; have f1 : w6.frozen? ⟨bg + 2, 1, none⟩ = false := blk_frozen q6 1; have HPL := Lib.hid (HPG.out _ w6 (by repeat (first | exact below_refl _ | apply below_alloc' | apply below_drew')) g6); have HZ := Lib.hid (rg2_out (j' := i + 1) HBS.out (blk_below C1.out (by repeat (first | exact below_refl _ | apply below_alloc' | apply below_drew'))) (blk_below C2.out (by repeat (first | exact below_refl _ | apply below_alloc' | apply below_drew'))) (OI.out.below (by repeat (first | exact below_refl _ | apply below_alloc' | apply below_drew'))) (OO.out.below (by repeat (first | exact below_refl _ | apply below_alloc' | apply below_drew'))) HNE.out (HU.out.trans (Upd.of_below (by repeat (first | exact below_refl _ | apply below_alloc' | apply below_drew')))) ROS.out o6 g6 t6); clear o6 g6 t6 q6)
                refine hK.out _ _ ?_ (fun hHeld => ?_)
                · (try dsimp only)
                  (first | exact ⟨kS _ HPL.out, m1⟩ | exact ⟨kS _ (blk_below HPP.out (by repeat (first | exact below_refl _ | apply below_alloc' | apply below_drew'))), below_cell (w := w7) (by repeat (first | exact below_refl _ | apply below_alloc' | apply below_drew')) c1⟩)
                clear hK K
                try simp only [Act.put, List.setIfInBounds_toArray, List.set_cons_zero, List.set_cons_succ]
                refine wpAnyH_take (i := 23) (v := ?_) rfl (by kernel_rfl) (by kernel_rfl) (by kernel_rfl) (fun _ _ _ h => h) (Or.inl ⟨by rfl, ?_⟩) (by assumption) ?_
                rotate_left 1
                · (intro w hSw; (try dsimp only at hSw); (go_simp <;> with_reducible rfl))
                try simp only [Act.put, List.setIfInBounds_toArray, List.set_cons_zero, List.set_cons_succ]
                refine wpAnyH_done (by kernel_rfl) ?_ _
                refine lastQ_normal rfl (fun K hK => ?_)
                go_simp
                refine hK.out _ _ ?_
                clear hK K
                try simp only [Act.put, List.setIfInBounds_toArray, List.set_cons_zero, List.set_cons_succ]
                go_wp2_with fail
                go_roundw
                case rel =>
                  first
                    | exact ⟨i + 1, by go_num, by omega, HZ.out⟩
                    | exact ⟨i + 1, by go_num, by omega, rg2_below HZ.out (below_drew' (below_refl _))⟩
                    | ((repeat apply Exists.intro); exact ⟨⟨i + 1, by go_num, by omega, HZ.out⟩, rfl⟩)
                    | ((repeat apply Exists.intro); exact ⟨⟨i + 1, by go_num, by omega, rg2_below HZ.out (below_drew' (below_refl _))⟩, rfl⟩)
                case measure => simp [intOf]; omega
              ·
                try clear hHeld
                go_simp
                refine hK.out _ _ ?_ (fun hHeld => ?_)
                · (try dsimp only)
                  (first | exact ⟨kS _ HPL.out, m1⟩ | exact ⟨kS _ (blk_below HPP.out (by repeat (first | exact below_refl _ | apply below_alloc' | apply below_drew'))), below_cell (w := w7) (by repeat (first | exact below_refl _ | apply below_alloc' | apply below_drew')) c1⟩)
                clear hK K
                try simp only [Act.put, List.setIfInBounds_toArray, List.set_cons_zero, List.set_cons_succ]
                refine wpAnyH_take (i := 18) (v := ?_) rfl (by kernel_rfl) (by kernel_rfl) (by kernel_rfl) (fun _ _ _ h => h) (Or.inl ⟨by rfl, ?_⟩) (by assumption) ?_
                rotate_left 1
                · (intro w hSw; (try dsimp only at hSw); (go_simp <;> with_reducible rfl))
                try simp only [Act.put, List.setIfInBounds_toArray, List.set_cons_zero, List.set_cons_succ]
                refine wpAnyH_ready (rs := [9, 19]) (by kernel_rfl) (by simp) ?_
                refine AllReadyH.cons rfl (fun K hK => ?_) (AllReadyH.cons rfl (fun K hK => ?_) AllReadyH.nil)
                ·
                  try clear hHeld
                  go_simp
                  refine hK.out _ _ ?_ (fun hHeld => ?_)
                  · (try dsimp only)
                    (first | exact ⟨kS _ HPL.out, m1⟩ | exact ⟨kS _ (blk_below HPP.out (by repeat (first | exact below_refl _ | apply below_alloc' | apply below_drew'))), below_cell (w := w7) (by repeat (first | exact below_refl _ | apply below_alloc' | apply below_drew')) c1⟩)
                  clear hK K
                  try simp only [Act.put, List.setIfInBounds_toArray, List.set_cons_zero, List.set_cons_succ]
                  refine wpAnyH_take (i := 10) (v := ?_) rfl (by kernel_rfl) (by kernel_rfl) (by kernel_rfl) (fun _ _ _ h => h) (Or.inl ⟨by rfl, ?_⟩) (by assumption) ?_
                  rotate_left 1
                  · (intro w hSw; (try dsimp only at hSw); (go_simp <;> with_reducible rfl))
                  try simp only [Act.put, List.setIfInBounds_toArray, List.set_cons_zero, List.set_cons_succ]
                  refine wpAnyH_ready (rs := [19]) (by kernel_rfl) (by simp) ?_
                  refine AllReadyH.cons rfl (fun K hK => ?_) AllReadyH.nil
                  try clear hHeld
                  go_simp
                  refine hK.out _ _ ?_ (fun hHeld => ?_)
                  · (try dsimp only)
                    (first | exact ⟨kS _ HPL.out, m1⟩ | exact ⟨kS _ (blk_below HPP.out (by repeat (first | exact below_refl _ | apply below_alloc' | apply below_drew'))), below_cell (w := w7) (by repeat (first | exact below_refl _ | apply below_alloc' | apply below_drew')) c1⟩)
                  clear hK K
                  try simp only [Act.put, List.setIfInBounds_toArray, List.set_cons_zero, List.set_cons_succ]
                  refine wpAnyH_take (i := 20) (v := ?_) rfl (by kernel_rfl) (by kernel_rfl) (by kernel_rfl) (fun _ _ _ h => h) (Or.inl ⟨by rfl, ?_⟩) (by assumption) ?_
                  rotate_left 1
                  · (intro w hSw; (try dsimp only at hSw); (go_simp <;> with_reducible rfl))
                  try simp only [Act.put, List.setIfInBounds_toArray, List.set_cons_zero, List.set_cons_succ]
                  refine wpAnyH_ready (rs := [21]) (by kernel_rfl) (by simp) ?_
                  refine AllReadyH.cons rfl (fun K hK => ?_) AllReadyH.nil
                  try clear hHeld
                  go_simp
                  refine hK.out _ _ ?_ (fun hHeld => ?_)
                  · (try dsimp only)
                    (first | exact ⟨kS _ HPL.out, m1⟩ | exact ⟨kS _ (blk_below HPP.out (by repeat (first | exact below_refl _ | apply below_alloc' | apply below_drew'))), below_cell (w := w7) (by repeat (first | exact below_refl _ | apply below_alloc' | apply below_drew')) c1⟩)
                  clear hK K
                  try simp only [Act.put, List.setIfInBounds_toArray, List.set_cons_zero, List.set_cons_succ]
                  refine wpAnyH_ready (rs := [22]) (by kernel_rfl) (by simp) ?_
                  refine AllReadyH.cons rfl (fun K hK => ?_) AllReadyH.nil
                  try clear hHeld
                  ((refine step_append_list (d := NR) (base := w4.heap.size) (by rfl) _ _ 38 37 _ 96 (by rfl) Try.underlying38 infoNd (by rfl) (by show 0 < 10; decide) (v := (.slice Ao (2 * i) ko)) (xs := (rgOut k i)) (by rfl) (OO.out.below (by repeat (first | exact below_refl _ | apply below_alloc' | apply below_drew'))) [rgD i, rgE' k i] [nodCs (rgD i) (.slice (some ⟨w7.heap.size + 2, 0, none⟩) 1 1), nodCs (rgE' k i) (.slice (some ⟨w7.heap.size + 3, 0, none⟩) 1 1)] rfl (hy2 (nodT_hy (x := rgD i) (sp := (i : Int)) (cj := 0) (kids := [2 * (i : Int) + 1]) (n := 1) (p := w7.heap.size + 0) (q := w7.heap.size + 2) (arr := #[.int .i64 (2 * (i : Int) + 1)]) rfl rfl (by decide) (by exact al5_0 w7 (Obj.cells #[.int .i64 (2 * (i : Int) + 1)] 3) (Obj.cells #[.int .i64 (2 * (((i : Int) + 1) % (k : Int)))] 3) (Obj.cells #[.int .i64 (i : Int), .int .i64 0, .slice (some ⟨w7.heap.size + 0, 0, none⟩) 1 1] 51) (Obj.cells #[.int .i64 0, .int .i64 0, .slice (some ⟨w7.heap.size + 1, 0, none⟩) 1 1] 51) (Obj.cells #[.bool false, .int .i64 0, .int .i64 (i : Int), .int .i64 0, .int .i64 0, .int .i64 0, .int .i64 0, .int .i64 0, .int .i64 0, .slice (some ⟨w7.heap.size + 2, 0, none⟩) 1 1, .bool false, .int .i64 1, .int .i64 0, .int .i64 (i : Int), .int .i64 0, .int .i64 0, .int .i64 0, .int .i64 0, .int .i64 0, .slice (some ⟨w7.heap.size + 3, 0, none⟩) 1 1] 37)) rfl (by exact al5_2 w7 (Obj.cells #[.int .i64 (2 * (i : Int) + 1)] 3) (Obj.cells #[.int .i64 (2 * (((i : Int) + 1) % (k : Int)))] 3) (Obj.cells #[.int .i64 (i : Int), .int .i64 0, .slice (some ⟨w7.heap.size + 0, 0, none⟩) 1 1] 51) (Obj.cells #[.int .i64 0, .int .i64 0, .slice (some ⟨w7.heap.size + 1, 0, none⟩) 1 1] 51) (Obj.cells #[.bool false, .int .i64 0, .int .i64 (i : Int), .int .i64 0, .int .i64 0, .int .i64 0, .int .i64 0, .int .i64 0, .int .i64 0, .slice (some ⟨w7.heap.size + 2, 0, none⟩) 1 1, .bool false, .int .i64 1, .int .i64 0, .int .i64 (i : Int), .int .i64 0, .int .i64 0, .int .i64 0, .int .i64 0, .int .i64 0, .slice (some ⟨w7.heap.size + 3, 0, none⟩) 1 1] 37)) (HSQ.out _ (by omega)) (HSQ.out _ (by omega))) (nodT_hy (x := rgE' k i) (sp := 0) (cj := 0) (kids := [2 * (((i : Int) + 1) % (k : Int))]) (n := 1) (p := w7.heap.size + 1) (q := w7.heap.size + 3) (arr := #[.int .i64 (2 * (((i : Int) + 1) % (k : Int)))]) rfl rfl (by decide) (by exact al5_1 w7 (Obj.cells #[.int .i64 (2 * (i : Int) + 1)] 3) (Obj.cells #[.int .i64 (2 * (((i : Int) + 1) % (k : Int)))] 3) (Obj.cells #[.int .i64 (i : Int), .int .i64 0, .slice (some ⟨w7.heap.size + 0, 0, none⟩) 1 1] 51) (Obj.cells #[.int .i64 0, .int .i64 0, .slice (some ⟨w7.heap.size + 1, 0, none⟩) 1 1] 51) (Obj.cells #[.bool false, .int .i64 0, .int .i64 (i : Int), .int .i64 0, .int .i64 0, .int .i64 0, .int .i64 0, .int .i64 0, .int .i64 0, .slice (some ⟨w7.heap.size + 2, 0, none⟩) 1 1, .bool false, .int .i64 1, .int .i64 0, .int .i64 (i : Int), .int .i64 0, .int .i64 0, .int .i64 0, .int .i64 0, .int .i64 0, .slice (some ⟨w7.heap.size + 3, 0, none⟩) 1 1] 37)) rfl (by exact al5_3 w7 (Obj.cells #[.int .i64 (2 * (i : Int) + 1)] 3) (Obj.cells #[.int .i64 (2 * (((i : Int) + 1) % (k : Int)))] 3) (Obj.cells #[.int .i64 (i : Int), .int .i64 0, .slice (some ⟨w7.heap.size + 0, 0, none⟩) 1 1] 51) (Obj.cells #[.int .i64 0, .int .i64 0, .slice (some ⟨w7.heap.size + 1, 0, none⟩) 1 1] 51) (Obj.cells #[.bool false, .int .i64 0, .int .i64 (i : Int), .int .i64 0, .int .i64 0, .int .i64 0, .int .i64 0, .int .i64 0, .int .i64 0, .slice (some ⟨w7.heap.size + 2, 0, none⟩) 1 1, .bool false, .int .i64 1, .int .i64 0, .int .i64 (i : Int), .int .i64 0, .int .i64 0, .int .i64 0, .int .i64 0, .int .i64 0, .slice (some ⟨w7.heap.size + 3, 0, none⟩) 1 1] 37)) (HSQ.out _ (by omega)) (HSQ.out _ (by omega)))) (b := w7.heap.size + 4) (arr := #[.bool false, .int .i64 0, .int .i64 (i : Int), .int .i64 0, .int .i64 0, .int .i64 0, .int .i64 0, .int .i64 0, .int .i64 0, .slice (some ⟨w7.heap.size + 2, 0, none⟩) 1 1, .bool false, .int .i64 1, .int .i64 0, .int .i64 (i : Int), .int .i64 0, .int .i64 0, .int .i64 0, .int .i64 0, .int .i64 0, .slice (some ⟨w7.heap.size + 3, 0, none⟩) 1 1]) (by rfl) (by exact al5_4 w7 (Obj.cells #[.int .i64 (2 * (i : Int) + 1)] 3) (Obj.cells #[.int .i64 (2 * (((i : Int) + 1) % (k : Int)))] 3) (Obj.cells #[.int .i64 (i : Int), .int .i64 0, .slice (some ⟨w7.heap.size + 0, 0, none⟩) 1 1] 51) (Obj.cells #[.int .i64 0, .int .i64 0, .slice (some ⟨w7.heap.size + 1, 0, none⟩) 1 1] 51) (Obj.cells #[.bool false, .int .i64 0, .int .i64 (i : Int), .int .i64 0, .int .i64 0, .int .i64 0, .int .i64 0, .int .i64 0, .int .i64 0, .slice (some ⟨w7.heap.size + 2, 0, none⟩) 1 1, .bool false, .int .i64 1, .int .i64 0, .int .i64 (i : Int), .int .i64 0, .int .i64 0, .int .i64 0, .int .i64 0, .int .i64 0, .slice (some ⟨w7.heap.size + 3, 0, none⟩) 1 1] 37)) (by rfl) (by rw [rgOut_len]; simp; omega) (by decide) (by have := HSZ.out; simp; omega) ?_); intro v6 w6 o6 g6 t6; obtain ⟨A6, k6, ev6, -, -, -⟩ := id o6.shape; rw [HLO.out] at ev6; subst ev6; have q6 := blk_grown (blk_below C2.out (by repeat (first | exact below_refl _ | apply below_alloc' | apply below_drew'))) g6 (fun e => by have := (OO.out.base e.symm).1; have := HBS.out; omega); have m0 : w6.cell? ⟨bg + 2, 0, none⟩ = some (.int .i64 0) := blk_cell q6 0; have m1 : w6.cell? ⟨bg + 2, 1, none⟩ = some (.slice Ao (2 * i) ko) := blk_cell q6 1; have f1 : w6.frozen? ⟨bg + 2, 1, none⟩ = false := blk_frozen q6 1; have HPL := Lib.hid (HPG.out _ w6 (by repeat (first | exact below_refl _ | apply below_alloc' | apply below_drew')) g6); have HZ := Lib.hid (rg2_out (j' := i + 1) HBS.out (blk_below C1.out (by repeat (first | exact below_refl _ | apply below_alloc' | apply below_drew'))) (blk_below C2.out (by repeat (first | exact below_refl _ | apply below_alloc' | apply below_drew'))) (OI.out.below (by repeat (first | exact below_refl _ | apply below_alloc' | apply below_drew'))) (OO.out.below (by repeat (first | exact below_refl _ | apply below_alloc' | apply below_drew'))) HNE.out (HU.out.trans (Upd.of_below (by repeat (first | exact below_refl _ | apply below_alloc' | apply below_drew')))) ROS.out o6 g6 t6); clear o6 g6 t6 q6)
                  refine hK.out _ _ ?_ (fun hHeld => ?_)
                  · (try dsimp only)
                    (first | exact ⟨kS _ HPL.out, m1⟩ | exact ⟨kS _ (blk_below HPP.out (by repeat (first | exact below_refl _ | apply below_alloc' | apply below_drew'))), below_cell (w := w7) (by repeat (first | exact below_refl _ | apply below_alloc' | apply below_drew')) c1⟩)
                  clear hK K
                  try simp only [Act.put, List.setIfInBounds_toArray, List.set_cons_zero, List.set_cons_succ]
                  refine wpAnyH_take (i := 23) (v := ?_) rfl (by kernel_rfl) (by kernel_rfl) (by kernel_rfl) (fun _ _ _ h => h) (Or.inl ⟨by rfl, ?_⟩) (by assumption) ?_
                  rotate_left 1
                  · (intro w hSw; (try dsimp only at hSw); (go_simp <;> with_reducible rfl))
                  try simp only [Act.put, List.setIfInBounds_toArray, List.set_cons_zero, List.set_cons_succ]
                  refine wpAnyH_done (by kernel_rfl) ?_ _
                  refine lastQ_normal rfl (fun K hK => ?_)
                  go_simp
                  refine hK.out _ _ ?_
                  clear hK K
                  try simp only [Act.put, List.setIfInBounds_toArray, List.set_cons_zero, List.set_cons_succ]
                  go_wp2_with fail
                  go_roundw
                  case rel =>
                    first
                      | exact ⟨i + 1, by go_num, by omega, HZ.out⟩
                      | exact ⟨i + 1, by go_num, by omega, rg2_below HZ.out (below_drew' (below_refl _))⟩
                      | ((repeat apply Exists.intro); exact ⟨⟨i + 1, by go_num, by omega, HZ.out⟩, rfl⟩)
                      | ((repeat apply Exists.intro); exact ⟨⟨i + 1, by go_num, by omega, rg2_below HZ.out (below_drew' (below_refl _))⟩, rfl⟩)
                  case measure => simp [intOf]; omega
                ·
                  try clear hHeld
                  go_simp
                  refine hK.out _ _ ?_ (fun hHeld => ?_)
                  · (try dsimp only)
                    (first | exact ⟨kS _ HPL.out, m1⟩ | exact ⟨kS _ (blk_below HPP.out (by repeat (first | exact below_refl _ | apply below_alloc' | apply below_drew'))), below_cell (w := w7) (by repeat (first | exact below_refl _ | apply below_alloc' | apply below_drew')) c1⟩)
                  clear hK K
                  try simp only [Act.put, List.setIfInBounds_toArray, List.set_cons_zero, List.set_cons_succ]
                  refine wpAnyH_take (i := 20) (v := ?_) rfl (by kernel_rfl) (by kernel_rfl) (by kernel_rfl) (fun _ _ _ h => h) (Or.inl ⟨by rfl, ?_⟩) (by assumption) ?_
                  rotate_left 1
                  · (intro w hSw; (try dsimp only at hSw); (go_simp <;> with_reducible rfl))
                  try simp only [Act.put, List.setIfInBounds_toArray, List.set_cons_zero, List.set_cons_succ]
                  refine wpAnyH_ready (rs := [9]) (by kernel_rfl) (by simp) ?_
                  refine AllReadyH.cons rfl (fun K hK => ?_) AllReadyH.nil
                  try clear hHeld
                  go_simp
                  refine hK.out _ _ ?_ (fun hHeld => ?_)
                  · (try dsimp only)
                    (first | exact ⟨kS _ HPL.out, m1⟩ | exact ⟨kS _ (blk_below HPP.out (by repeat (first | exact below_refl _ | apply below_alloc' | apply below_drew'))), below_cell (w := w7) (by repeat (first | exact below_refl _ | apply below_alloc' | apply below_drew')) c1⟩)
                  clear hK K
                  try simp only [Act.put, List.setIfInBounds_toArray, List.set_cons_zero, List.set_cons_succ]
                  refine wpAnyH_take (i := 10) (v := ?_) rfl (by kernel_rfl) (by kernel_rfl) (by kernel_rfl) (fun _ _ _ h => h) (Or.inl ⟨by rfl, ?_⟩) (by assumption) ?_
                  rotate_left 1
                  · (intro w hSw; (try dsimp only at hSw); (go_simp <;> with_reducible rfl))
                  try simp only [Act.put, List.setIfInBounds_toArray, List.set_cons_zero, List.set_cons_succ]
                  refine wpAnyH_ready (rs := [21]) (by kernel_rfl) (by simp) ?_
                  refine AllReadyH.cons rfl (fun K hK => ?_) AllReadyH.nil
                  try clear hHeld
                  go_simp
                  refine hK.out _ _ ?_ (fun hHeld => ?_)
                  · (try dsimp only)
                    (first | exact ⟨kS _ HPL.out, m1⟩ | exact ⟨kS _ (blk_below HPP.out (by repeat (first | exact below_refl _ | apply below_alloc' | apply below_drew'))), below_cell (w := w7) (by repeat (first | exact below_refl _ | apply below_alloc' | apply below_drew')) c1⟩)
                  clear hK K
                  try simp only [Act.put, List.setIfInBounds_toArray, List.set_cons_zero, List.set_cons_succ]
                  refine wpAnyH_ready (rs := [22]) (by kernel_rfl) (by simp) ?_
                  refine AllReadyH.cons rfl (fun K hK => ?_) AllReadyH.nil
                  try clear hHeld
                  ((refine step_append_list (d := NR) (base := w4.heap.size) (by rfl) _ _ 38 37 _ 96 (by rfl) Try.underlying38 infoNd (by rfl) (by show 0 < 10; decide) (v := (.slice Ao (2 * i) ko)) (xs := (rgOut k i)) (by rfl) (OO.out.below (by repeat (first | exact below_refl _ | apply below_alloc' | apply below_drew'))) [rgD i, rgE' k i] [nodCs (rgD i) (.slice (some ⟨w7.heap.size + 3, 0, none⟩) 1 1), nodCs (rgE' k i) (.slice (some ⟨w7.heap.size + 2, 0, none⟩) 1 1)] rfl (hy2 (nodT_hy (x := rgD i) (sp := (i : Int)) (cj := 0) (kids := [2 * (i : Int) + 1]) (n := 1) (p := w7.heap.size + 0) (q := w7.heap.size + 3) (arr := #[.int .i64 (2 * (i : Int) + 1)]) rfl rfl (by decide) (by exact al5_0 w7 (Obj.cells #[.int .i64 (2 * (i : Int) + 1)] 3) (Obj.cells #[.int .i64 (2 * (((i : Int) + 1) % (k : Int)))] 3) (Obj.cells #[.int .i64 0, .int .i64 0, .slice (some ⟨w7.heap.size + 1, 0, none⟩) 1 1] 51) (Obj.cells #[.int .i64 (i : Int), .int .i64 0, .slice (some ⟨w7.heap.size + 0, 0, none⟩) 1 1] 51) (Obj.cells #[.bool false, .int .i64 0, .int .i64 (i : Int), .int .i64 0, .int .i64 0, .int .i64 0, .int .i64 0, .int .i64 0, .int .i64 0, .slice (some ⟨w7.heap.size + 3, 0, none⟩) 1 1, .bool false, .int .i64 1, .int .i64 0, .int .i64 (i : Int), .int .i64 0, .int .i64 0, .int .i64 0, .int .i64 0, .int .i64 0, .slice (some ⟨w7.heap.size + 2, 0, none⟩) 1 1] 37)) rfl (by exact al5_3 w7 (Obj.cells #[.int .i64 (2 * (i : Int) + 1)] 3) (Obj.cells #[.int .i64 (2 * (((i : Int) + 1) % (k : Int)))] 3) (Obj.cells #[.int .i64 0, .int .i64 0, .slice (some ⟨w7.heap.size + 1, 0, none⟩) 1 1] 51) (Obj.cells #[.int .i64 (i : Int), .int .i64 0, .slice (some ⟨w7.heap.size + 0, 0, none⟩) 1 1] 51) (Obj.cells #[.bool false, .int .i64 0, .int .i64 (i : Int), .int .i64 0, .int .i64 0, .int .i64 0, .int .i64 0, .int .i64 0, .int .i64 0, .slice (some ⟨w7.heap.size + 3, 0, none⟩) 1 1, .bool false, .int .i64 1, .int .i64 0, .int .i64 (i : Int), .int .i64 0, .int .i64 0, .int .i64 0, .int .i64 0, .int .i64 0, .slice (some ⟨w7.heap.size + 2, 0, none⟩) 1 1] 37)) (HSQ.out _ (by omega)) (HSQ.out _ (by omega))) (nodT_hy (x := rgE' k i) (sp := 0) (cj := 0) (kids := [2 * (((i : Int) + 1) % (k : Int))]) (n := 1) (p := w7.heap.size + 1) (q := w7.heap.size + 2) (arr := #[.int .i64 (2 * (((i : Int) + 1) % (k : Int)))]) rfl rfl (by decide) (by exact al5_1 w7 (Obj.cells #[.int .i64 (2 * (i : Int) + 1)] 3) (Obj.cells #[.int .i64 (2 * (((i : Int) + 1) % (k : Int)))] 3) (Obj.cells #[.int .i64 0, .int .i64 0, .slice (some ⟨w7.heap.size + 1, 0, none⟩) 1 1] 51) (Obj.cells #[.int .i64 (i : Int), .int .i64 0, .slice (some ⟨w7.heap.size + 0, 0, none⟩) 1 1] 51) (Obj.cells #[.bool false, .int .i64 0, .int .i64 (i : Int), .int .i64 0, .int .i64 0, .int .i64 0, .int .i64 0, .int .i64 0, .int .i64 0, .slice (some ⟨w7.heap.size + 3, 0, none⟩) 1 1, .bool false, .int .i64 1, .int .i64 0, .int .i64 (i : Int), .int .i64 0, .int .i64 0, .int .i64 0, .int .i64 0, .int .i64 0, .slice (some ⟨w7.heap.size + 2, 0, none⟩) 1 1] 37)) rfl (by exact al5_2 w7 (Obj.cells #[.int .i64 (2 * (i : Int) + 1)] 3) (Obj.cells #[.int .i64 (2 * (((i : Int) + 1) % (k : Int)))] 3) (Obj.cells #[.int .i64 0, .int .i64 0, .slice (some ⟨w7.heap.size + 1, 0, none⟩) 1 1] 51) (Obj.cells #[.int .i64 (i : Int), .int .i64 0, .slice (some ⟨w7.heap.size + 0, 0, none⟩) 1 1] 51) (Obj.cells #[.bool false, .int .i64 0, .int .i64 (i : Int), .int .i64 0, .int .i64 0, .int .i64 0, .int .i64 0, .int .i64 0, .int .i64 0, .slice (some ⟨w7.heap.size + 3, 0, none⟩) 1 1, .bool false, .int .i64 1, .int .i64 0, .int .i64 (i : Int), .int .i64 0, .int .i64 0, .int .i64 0, .int .i64 0, .int .i64 0, .slice (some ⟨w7.heap.size + 2, 0, none⟩) 1 1] 37)) (HSQ.out _ (by omega)) (HSQ.out _ (by omega)))) (b := w7.heap.size + 4) (arr := #[.bool false, .int .i64 0, .int .i64 (i : Int), .int .i64 0, .int .i64 0, .int .i64 0, .int .i64 0, .int .i64 0, .int .i64 0, .slice (some ⟨w7.heap.size + 3, 0, none⟩) 1 1, .bool false, .int .i64 1, .int .i64 0, .int .i64 (i : Int), .int .i64 0, .int .i64 0, .int .i64 0, .int .i64 0, .int .i64 0, .slice (some ⟨w7.heap.size + 2, 0, none⟩) 1 1]) (by rfl) (by exact al5_4 w7 (Obj.cells #[.int .i64 (2 * (i : Int) + 1)] 3) (Obj.cells #[.int .i64 (2 * (((i : Int) + 1) % (k : Int)))] 3) (Obj.cells #[.int .i64 0, .int .i64 0, .slice (some ⟨w7.heap.size + 1, 0, none⟩) 1 1] 51) (Obj.cells #[.int .i64 (i : Int), .int .i64 0, .slice (some ⟨w7.heap.size + 0, 0, none⟩) 1 1] 51) (Obj.cells #[.bool false, .int .i64 0, .int .i64 (i : Int), .int .i64 0, .int .i64 0, .int .i64 0, .int .i64 0, .int .i64 0, .int .i64 0, .slice (some ⟨w7.heap.size + 3, 0, none⟩) 1 1, .bool false, .int .i64 1, .int .i64 0, .int .i64 (i : Int), .int .i64 0, .int .i64 0, .int .i64 0, .int .i64 0, .int .i64 0, .slice (some ⟨w7.heap.size + 2, 0, none⟩) 1 1] 37)) (by rfl) (by rw [rgOut_len]; simp; omega) (by decide) (by have := HSZ.out; simp; omega) ?_); intro v6 w6 o6 g6 t6; obtain ⟨A6, k6, ev6, -, -, -⟩ := id o6.shape; rw [HLO.out] at ev6; subst ev6; have q6 := blk_grown (blk_below C2.out (by repeat (first | exact below_refl _ | apply below_alloc' | apply below_drew'))) g6 (fun e => by have := (OO.out.base e.symm).1; have := HBS.out; omega); have m0 : w6.cell? ⟨bg + 2, 0, none⟩ = some (.int .i64 0) := blk_cell q6 0; have m1 : w6.cell? ⟨bg + 2, 1, none⟩ = some (.slice Ao (2 * i) ko) := blk_cell q6 1; have f1 : w6.frozen? ⟨bg + 2, 1, none⟩ = false := blk_frozen q6 1; have HPL := Lib.hid (HPG.out _ w6 (by repeat (first | exact below_refl _ | apply below_alloc' | apply below_drew')) g6); have HZ := Lib.hid (rg2_out (j' := i + 1) HBS.out (blk_below C1.out (by repeat (first | exact below_refl _ | apply below_alloc' | apply below_drew'))) (blk_below C2.out (by repeat (first | exact below_refl _ | apply below_alloc' | apply below_drew'))) (OI.out.below (by repeat (first | exact below_refl _ | apply below_alloc' | apply below_drew'))) (OO.out.below (by repeat (first | exact below_refl _ | apply below_alloc' | apply below_drew'))) HNE.out (HU.out.trans (Upd.of_below (by repeat (first | exact below_refl _ | apply below_alloc' | apply below_drew')))) ROS.out o6 g6 t6); clear o6 g6 t6 q6)
                  refine hK.out _ _ ?_ (fun hHeld => ?_)
                  · (try dsimp only)
                    (first | exact ⟨kS _ HPL.out, m1⟩ | exact ⟨kS _ (blk_below HPP.out (by repeat (first | exact below_refl _ | apply below_alloc' | apply below_drew'))), below_cell (w := w7) (by repeat (first | exact below_refl _ | apply below_alloc' | apply below_drew')) c1⟩)
                  clear hK K
                  try simp only [Act.put, List.setIfInBounds_toArray, List.set_cons_zero, List.set_cons_succ]
                  refine wpAnyH_take (i := 23) (v := ?_) rfl (by kernel_rfl) (by kernel_rfl) (by kernel_rfl) (fun _ _ _ h => h) (Or.inl ⟨by rfl, ?_⟩) (by assumption) ?_
                  rotate_left 1
                  · (intro w hSw; (try dsimp only at hSw); (go_simp <;> with_reducible rfl))
                  try simp only [Act.put, List.setIfInBounds_toArray, List.set_cons_zero, List.set_cons_succ]
                  refine wpAnyH_done (by kernel_rfl) ?_ _
                  refine lastQ_normal rfl (fun K hK => ?_)
                  go_simp
                  refine hK.out _ _ ?_
                  clear hK K
                  try simp only [Act.put, List.setIfInBounds_toArray, List.set_cons_zero, List.set_cons_succ]
                  go_wp2_with fail
                  go_roundw
                  case rel =>
                    first
                      | exact ⟨i + 1, by go_num, by omega, HZ.out⟩
                      | exact ⟨i + 1, by go_num, by omega, rg2_below HZ.out (below_drew' (below_refl _))⟩
                      | ((repeat apply Exists.intro); exact ⟨⟨i + 1, by go_num, by omega, HZ.out⟩, rfl⟩)
                      | ((repeat apply Exists.intro); exact ⟨⟨i + 1, by go_num, by omega, rg2_below HZ.out (below_drew' (below_refl _))⟩, rfl⟩)
                  case measure => simp [intOf]; omega
            ·
              try clear hHeld
              go_simp
              refine hK.out _ _ ?_ (fun hHeld => ?_)
              · (try dsimp only)
                (first | exact ⟨kS _ HPL.out, m1⟩ | exact ⟨kS _ (blk_below HPP.out (by repeat (first | exact below_refl _ | apply below_alloc' | apply below_drew'))), below_cell (w := w7) (by repeat (first | exact below_refl _ | apply below_alloc' | apply below_drew')) c1⟩)
              clear hK K
              try simp only [Act.put, List.setIfInBounds_toArray, List.set_cons_zero, List.set_cons_succ]
              refine wpAnyH_take (i := 18) (v := ?_) rfl (by kernel_rfl) (by kernel_rfl) (by kernel_rfl) (fun _ _ _ h => h) (Or.inl ⟨by rfl, ?_⟩) (by assumption) ?_
              rotate_left 1
              · (intro w hSw; (try dsimp only at hSw); (go_simp <;> with_reducible rfl))
              try simp only [Act.put, List.setIfInBounds_toArray, List.set_cons_zero, List.set_cons_succ]
              refine wpAnyH_ready (rs := [7, 19]) (by kernel_rfl) (by simp) ?_
              refine AllReadyH.cons rfl (fun K hK => ?_) (AllReadyH.cons rfl (fun K hK => ?_) AllReadyH.nil)
              ·
                try clear hHeld
                go_simp
                refine hK.out _ _ ?_ (fun hHeld => ?_)
                · (try dsimp only)
                  (first | exact ⟨kS _ HPL.out, m1⟩ | exact ⟨kS _ (blk_below HPP.out (by repeat (first | exact below_refl _ | apply below_alloc' | apply below_drew'))), below_cell (w := w7) (by repeat (first | exact below_refl _ | apply below_alloc' | apply below_drew')) c1⟩)
                clear hK K
                try simp only [Act.put, List.setIfInBounds_toArray, List.set_cons_zero, List.set_cons_succ]
                refine wpAnyH_take (i := 8) (v := ?_) rfl (by kernel_rfl) (by kernel_rfl) (by kernel_rfl) (fun _ _ _ h => h) (Or.inl ⟨by rfl, ?_⟩) (by assumption) ?_
                rotate_left 1
                · (intro w hSw; (try dsimp only at hSw); (go_simp <;> with_reducible rfl))
                try simp only [Act.put, List.setIfInBounds_toArray, List.set_cons_zero, List.set_cons_succ]
                refine wpAnyH_ready (rs := [9, 19]) (by kernel_rfl) (by simp) ?_
                refine AllReadyH.cons rfl (fun K hK => ?_) (AllReadyH.cons rfl (fun K hK => ?_) AllReadyH.nil)
                ·
                  try clear hHeld
                  go_simp
                  refine hK.out _ _ ?_ (fun hHeld => ?_)
                  · (try dsimp only)
                    (first | exact ⟨kS _ HPL.out, m1⟩ | exact ⟨kS _ (blk_below HPP.out (by repeat (first | exact below_refl _ | apply below_alloc' | apply below_drew'))), below_cell (w := w7) (by repeat (first | exact below_refl _ | apply below_alloc' | apply below_drew')) c1⟩)
                  clear hK K
                  try simp only [Act.put, List.setIfInBounds_toArray, List.set_cons_zero, List.set_cons_succ]
                  refine wpAnyH_take (i := 10) (v := ?_) rfl (by kernel_rfl) (by kernel_rfl) (by kernel_rfl) (fun _ _ _ h => h) (Or.inl ⟨by rfl, ?_⟩) (by assumption) ?_
                  rotate_left 1
                  · (intro w hSw; (try dsimp only at hSw); (go_simp <;> with_reducible rfl))
                  try simp only [Act.put, List.setIfInBounds_toArray, List.set_cons_zero, List.set_cons_succ]
                  refine wpAnyH_ready (rs := [19]) (by kernel_rfl) (by simp) ?_
                  refine AllReadyH.cons rfl (fun K hK => ?_) AllReadyH.nil
                  try clear hHeld
                  go_simp
                  refine hK.out _ _ ?_ (fun hHeld => ?_)
                  · (try dsimp only)
                    (first | exact ⟨kS _ HPL.out, m1⟩ | exact ⟨kS _ (blk_below HPP.out (by repeat (first | exact below_refl _ | apply below_alloc' | apply below_drew'))), below_cell (w := w7) (by repeat (first | exact below_refl _ | apply below_alloc' | apply below_drew')) c1⟩)
                  clear hK K
                  try simp only [Act.put, List.setIfInBounds_toArray, List.set_cons_zero, List.set_cons_succ]
                  refine wpAnyH_take (i := 20) (v := ?_) rfl (by kernel_rfl) (by kernel_rfl) (by kernel_rfl) (fun _ _ _ h => h) (Or.inl ⟨by rfl, ?_⟩) (by assumption) ?_
                  rotate_left 1
                  · (intro w hSw; (try dsimp only at hSw); (go_simp <;> with_reducible rfl))
                  try simp only [Act.put, List.setIfInBounds_toArray, List.set_cons_zero, List.set_cons_succ]
                  refine wpAnyH_ready (rs := [21]) (by kernel_rfl) (by simp) ?_
                  refine AllReadyH.cons rfl (fun K hK => ?_) AllReadyH.nil
                  try clear hHeld
                  go_simp
                  refine hK.out _ _ ?_ (fun hHeld => ?_)
                  · (try dsimp only)
                    (first | exact ⟨kS _ HPL.out, m1⟩ | exact ⟨kS _ (blk_below HPP.out (by repeat (first | exact below_refl _ | apply below_alloc' | apply below_drew'))), below_cell (w := w7) (by repeat (first | exact below_refl _ | apply below_alloc' | apply below_drew')) c1⟩)
                  clear hK K
                  try simp only [Act.put, List.setIfInBounds_toArray, List.set_cons_zero, List.set_cons_succ]
                  refine wpAnyH_ready (rs := [22]) (by kernel_rfl) (by simp) ?_
                  refine AllReadyH.cons rfl (fun K hK => ?_) AllReadyH.nil
                  try clear hHeld
                  ((refine step_append_list (d := NR) (base := w4.heap.size) (by rfl) _ _ 38 37 _ 96 (by rfl) Try.underlying38 infoNd (by rfl) (by show 0 < 10; decide) (v := (.slice Ao (2 * i) ko)) (xs := (rgOut k i)) (by rfl) (OO.out.below (by repeat (first | exact below_refl _ | apply below_alloc' | apply below_drew'))) [rgD i, rgE' k i] [nodCs (rgD i) (.slice (some ⟨w7.heap.size + 2, 0, none⟩) 1 1), nodCs (rgE' k i) (.slice (some ⟨w7.heap.size + 3, 0, none⟩) 1 1)] rfl (hy2 (nodT_hy (x := rgD i) (sp := (i : Int)) (cj := 0) (kids := [2 * (i : Int) + 1]) (n := 1) (p := w7.heap.size + 1) (q := w7.heap.size + 2) (arr := #[.int .i64 (2 * (i : Int) + 1)]) rfl rfl (by decide) (by exact al5_1 w7 (Obj.cells #[.int .i64 (2 * (((i : Int) + 1) % (k : Int)))] 3) (Obj.cells #[.int .i64 (2 * (i : Int) + 1)] 3) (Obj.cells #[.int .i64 (i : Int), .int .i64 0, .slice (some ⟨w7.heap.size + 1, 0, none⟩) 1 1] 51) (Obj.cells #[.int .i64 0, .int .i64 0, .slice (some ⟨w7.heap.size + 0, 0, none⟩) 1 1] 51) (Obj.cells #[.bool false, .int .i64 0, .int .i64 (i : Int), .int .i64 0, .int .i64 0, .int .i64 0, .int .i64 0, .int .i64 0, .int .i64 0, .slice (some ⟨w7.heap.size + 2, 0, none⟩) 1 1, .bool false, .int .i64 1, .int .i64 0, .int .i64 (i : Int), .int .i64 0, .int .i64 0, .int .i64 0, .int .i64 0, .int .i64 0, .slice (some ⟨w7.heap.size + 3, 0, none⟩) 1 1] 37)) rfl (by exact al5_2 w7 (Obj.cells #[.int .i64 (2 * (((i : Int) + 1) % (k : Int)))] 3) (Obj.cells #[.int .i64 (2 * (i : Int) + 1)] 3) (Obj.cells #[.int .i64 (i : Int), .int .i64 0, .slice (some ⟨w7.heap.size + 1, 0, none⟩) 1 1] 51) (Obj.cells #[.int .i64 0, .int .i64 0, .slice (some ⟨w7.heap.size + 0, 0, none⟩) 1 1] 51) (Obj.cells #[.bool false, .int .i64 0, .int .i64 (i : Int), .int .i64 0, .int .i64 0, .int .i64 0, .int .i64 0, .int .i64 0, .int .i64 0, .slice (some ⟨w7.heap.size + 2, 0, none⟩) 1 1, .bool false, .int .i64 1, .int .i64 0, .int .i64 (i : Int), .int .i64 0, .int .i64 0, .int .i64 0, .int .i64 0, .int .i64 0, .slice (some ⟨w7.heap.size + 3, 0, none⟩) 1 1] 37)) (HSQ.out _ (by omega)) (HSQ.out _ (by omega))) (nodT_hy (x := rgE' k i) (sp := 0) (cj := 0) (kids := [2 * (((i : Int) + 1) % (k : Int))]) (n := 1) (p := w7.heap.size + 0) (q := w7.heap.size + 3) (arr := #[.int .i64 (2 * (((i : Int) + 1) % (k : Int)))]) rfl rfl (by decide) (by exact al5_0 w7 (Obj.cells #[.int .i64 (2 * (((i : Int) + 1) % (k : Int)))] 3) (Obj.cells #[.int .i64 (2 * (i : Int) + 1)] 3) (Obj.cells #[.int .i64 (i : Int), .int .i64 0, .slice (some ⟨w7.heap.size + 1, 0, none⟩) 1 1] 51) (Obj.cells #[.int .i64 0, .int .i64 0, .slice (some ⟨w7.heap.size + 0, 0, none⟩) 1 1] 51) (Obj.cells #[.bool false, .int .i64 0, .int .i64 (i : Int), .int .i64 0, .int .i64 0, .int .i64 0, .int .i64 0, .int .i64 0, .int .i64 0, .slice (some ⟨w7.heap.size + 2, 0, none⟩) 1 1, .bool false, .int .i64 1, .int .i64 0, .int .i64 (i : Int), .int .i64 0, .int .i64 0, .int .i64 0, .int .i64 0, .int .i64 0, .slice (some ⟨w7.heap.size + 3, 0, none⟩) 1 1] 37)) rfl (by exact al5_3 w7 (Obj.cells #[.int .i64 (2 * (((i : Int) + 1) % (k : Int)))] 3) (Obj.cells #[.int .i64 (2 * (i : Int) + 1)] 3) (Obj.cells #[.int .i64 (i : Int), .int .i64 0, .slice (some ⟨w7.heap.size + 1, 0, none⟩) 1 1] 51) (Obj.cells #[.int .i64 0, .int .i64 0, .slice (some ⟨w7.heap.size + 0, 0, none⟩) 1 1] 51) (Obj.cells #[.bool false, .int .i64 0, .int .i64 (i : Int), .int .i64 0, .int .i64 0, .int .i64 0, .int .i64 0, .int .i64 0, .int .i64 0, .slice (some ⟨w7.heap.size + 2, 0, none⟩) 1 1, .bool false, .int .i64 1, .int .i64 0, .int .i64 (i : Int), .int .i64 0, .int .i64 0, .int .i64 0, .int .i64 0, .int .i64 0, .slice (some ⟨w7.heap.size + 3, 0, none⟩) 1 1] 37)) (HSQ.out _ (by omega)) (HSQ.out _ (by omega)))) (b := w7.heap.size + 4) (arr := #[.bool false, .int .i64 0, .int .i64 (i : Int), .int .i64 0, .int .i64 0, .int .i64 0, .int .i64 0, .int .i64 0, .int .i64 0, .slice (some ⟨w7.heap.size + 2, 0, none⟩) 1 1, .bool false, .int .i64 1, .int .i64 0, .int .i64 (i : Int), .int .i64 0, .int .i64 0, .int .i64 0, .int .i64 0, .int .i64 0, .slice (some ⟨w7.heap.size + 3, 0, none⟩) 1 1]) (by rfl) (by exact al5_4 w7 (Obj.cells #[.int .i64 (2 * (((i : Int) + 1) % (k : Int)))] 3) (Obj.cells #[.int .i64 (2 * (i : Int) + 1)] 3) (Obj.cells #[.int .i64 (i : Int), .int .i64 0, .slice (some ⟨w7.heap.size + 1, 0, none⟩) 1 1] 51) (Obj.cells #[.int .i64 0, .int .i64 0, .slice (some ⟨w7.heap.size + 0, 0, none⟩) 1 1] 51) (Obj.cells #[.bool false, .int .i64 0, .int .i64 (i : Int), .int .i64 0, .int .i64 0, .int .i64 0, .int .i64 0, .int .i64 0, .int .i64 0, .slice (some ⟨w7.heap.size + 2, 0, none⟩) 1 1, .bool false, .int .i64 1, .int .i64 0, .int .i64 (i : Int), .int .i64 0, .int .i64 0, .int .i64 0, .int .i64 0, .int .i64 0, .slice (some ⟨w7.heap.size + 3, 0, none⟩) 1 1] 37)) (by rfl) (by rw [rgOut_len]; simp; omega) (by decide) (by have := HSZ.out; simp; omega) ?_); intro v6 w6 o6 g6 t6; obtain ⟨A6, k6, ev6, -, -, -⟩ := id o6.shape; rw [HLO.out] at ev6; subst ev6; have q6 := blk_grown (blk_below C2.out (by repeat (first | exact below_refl _ | apply below_alloc' | apply below_drew'))) g6 (fun e => by have := (OO.out.base e.symm).1; have := HBS.out; omega); have m0 : w6.cell? ⟨bg + 2, 0, none⟩ = some (.int .i64 0) := blk_cell q6 0; have m1 : w6.cell? ⟨bg + 2, 1, none⟩ = some (.slice Ao (2 * i) ko) := blk_cell q6 1; have f1 : w6.frozen? ⟨bg + 2, 1, none⟩ = false := blk_frozen q6 1; have HPL := Lib.hid (HPG.out _ w6 (by repeat (first | exact below_refl _ | apply below_alloc' | apply below_drew')) g6); have HZ := Lib.hid (rg2_out (j' := i + 1) HBS.out (blk_below C1.out (by repeat (first | exact below_refl _ | apply below_alloc' | apply below_drew'))) (blk_below C2.out (by repeat (first | exact below_refl _ | apply below_alloc' | apply below_drew'))) (OI.out.below (by repeat (first | exact below_refl _ | apply below_alloc' | apply below_drew'))) (OO.out.below (by repeat (first | exact below_refl _ | apply below_alloc' | apply below_drew'))) HNE.out (HU.out.trans (Upd.of_below (by repeat (first | exact below_refl _ | apply below_alloc' | apply below_drew')))) ROS.out o6 g6 t6); clear o6 g6 t6 q6)
                  refine hK.out _ _ ?_ (fun hHeld => ?_)
                  · (try dsimp only)
                    (first | exact ⟨kS _ HPL.out, m1⟩ | exact ⟨kS _ (blk_below HPP.out (by repeat (first | exact below_refl _ | apply below_alloc' | apply below_drew'))), below_cell (w := w7) (by repeat (first | exact below_refl _ | apply below_alloc' | apply below_drew')) c1⟩)
                  clear hK K
                  try simp only [Act.put, List.setIfInBounds_toArray, List.set_cons_zero, List.set_cons_succ]
                  refine wpAnyH_take (i := 23) (v := ?_) rfl (by kernel_rfl) (by kernel_rfl) (by kernel_rfl) (fun _ _ _ h => h) (Or.inl ⟨by rfl, ?_⟩) (by assumption) ?_
                  rotate_left 1
                  · (intro w hSw; (try dsimp only at hSw); (go_simp <;> with_reducible rfl))
                  try simp only [Act.put, List.setIfInBounds_toArray, List.set_cons_zero, List.set_cons_succ]
                  refine wpAnyH_done (by kernel_rfl) ?_ _
                  refine lastQ_normal rfl (fun K hK => ?_)
                  go_simp
                  refine hK.out _ _ ?_
                  clear hK K
                  try simp only [Act.put, List.setIfInBounds_toArray, List.set_cons_zero, List.set_cons_succ]
                  go_wp2_with fail
                  go_roundw
                  case rel =>
                    first
                      | exact ⟨i + 1, by go_num, by omega, HZ.out⟩
                      | exact ⟨i + 1, by go_num, by omega, rg2_below HZ.out (below_drew' (below_refl _))⟩
                      | ((repeat apply Exists.intro); exact ⟨⟨i + 1, by go_num, by omega, HZ.out⟩, rfl⟩)
                      | ((repeat apply Exists.intro); exact ⟨⟨i + 1, by go_num, by omega, rg2_below HZ.out (below_drew' (below_refl _))⟩, rfl⟩)
                  case measure => simp [intOf]; omega
                ·
                  try clear hHeld
                  go_simp
                  refine hK.out _ _ ?_ (fun hHeld => ?_)
                  · (try dsimp only)
                    (first | exact ⟨kS _ HPL.out, m1⟩ | exact ⟨kS _ (blk_below HPP.out (by repeat (first | exact below_refl _ | apply below_alloc' | apply below_drew'))), below_cell (w := w7) (by repeat (first | exact below_refl _ | apply below_alloc' | apply below_drew')) c1⟩)
                  clear hK K
                  try simp only [Act.put, List.setIfInBounds_toArray, List.set_cons_zero, List.set_cons_succ]
                  refine wpAnyH_take (i := 20) (v := ?_) rfl (by kernel_rfl) (by kernel_rfl) (by kernel_rfl) (fun _ _ _ h => h) (Or.inl ⟨by rfl, ?_⟩) (by assumption) ?_
                  rotate_left 1
                  · (intro w hSw; (try dsimp only at hSw); (go_simp <;> with_reducible rfl))
                  try simp only [Act.put, List.setIfInBounds_toArray, List.set_cons_zero, List.set_cons_succ]
                  refine wpAnyH_ready (rs := [9]) (by kernel_rfl) (by simp) ?_
                  refine AllReadyH.cons rfl (fun K hK => ?_) AllReadyH.nil
                  try clear hHeld
                  go_simp
                  refine hK.out _ _ ?_ (fun hHeld => ?_)
                  · (try dsimp only)
                    (first | exact ⟨kS _ HPL.out, m1⟩ | exact ⟨kS _ (blk_below HPP.out (by repeat (first | exact below_refl _ | apply below_alloc' | apply below_drew'))), below_cell (w := w7) (by repeat (first | exact below_refl _ | apply below_alloc' | apply below_drew')) c1⟩)
                  clear hK K
                  try simp only [Act.put, List.setIfInBounds_toArray, List.set_cons_zero, List.set_cons_succ]
                  refine wpAnyH_take (i := 10) (v := ?_) rfl (by kernel_rfl) (by kernel_rfl) (by kernel_rfl) (fun _ _ _ h => h) (Or.inl ⟨by rfl, ?_⟩) (by assumption) ?_
                  rotate_left 1
                  · (intro w hSw; (try dsimp only at hSw); (go_simp <;> with_reducible rfl))
                  try simp only [Act.put, List.setIfInBounds_toArray, List.set_cons_zero, List.set_cons_succ]
                  refine wpAnyH_ready (rs := [21]) (by kernel_rfl) (by simp) ?_
                  refine AllReadyH.cons rfl (fun K hK => ?_) AllReadyH.nil
                  try clear hHeld
                  go_simp
                  refine hK.out _ _ ?_ (fun hHeld => ?_)
                  · (try dsimp only)
                    (first | exact ⟨kS _ HPL.out, m1⟩ | exact ⟨kS _ (blk_below HPP.out (by repeat (first | exact below_refl _ | apply below_alloc' | apply below_drew'))), below_cell (w := w7) (by repeat (first | exact below_refl _ | apply below_alloc' | apply below_drew')) c1⟩)
                  clear hK K
                  try simp only [Act.put, List.setIfInBounds_toArray, List.set_cons_zero, List.set_cons_succ]
                  refine wpAnyH_ready (rs := [22]) (by kernel_rfl) (by simp) ?_
                  refine AllReadyH.cons rfl (fun K hK => ?_) AllReadyH.nil
                  try clear hHeld
                  ((refine step_append_list (d := NR) (base := w4.heap.size) (by rfl) _ _ 38 37 _ 96 (by rfl) Try.underlying38 infoNd (by rfl) (by show 0 < 10; decide) (v := (.slice Ao (2 * i) ko)) (xs := (rgOut k i)) (by rfl) (OO.out.below (by repeat (first | exact below_refl _ | apply below_alloc' | apply below_drew'))) [rgD i, rgE' k i] [nodCs (rgD i) (.slice (some ⟨w7.heap.size + 3, 0, none⟩) 1 1), nodCs (rgE' k i) (.slice (some ⟨w7.heap.size + 2, 0, none⟩) 1 1)] rfl (hy2 (nodT_hy (x := rgD i) (sp := (i : Int)) (cj := 0) (kids := [2 * (i : Int) + 1]) (n := 1) (p := w7.heap.size + 1) (q := w7.heap.size + 3) (arr := #[.int .i64 (2 * (i : Int) + 1)]) rfl rfl (by decide) (by exact al5_1 w7 (Obj.cells #[.int .i64 (2 * (((i : Int) + 1) % (k : Int)))] 3) (Obj.cells #[.int .i64 (2 * (i : Int) + 1)] 3) (Obj.cells #[.int .i64 0, .int .i64 0, .slice (some ⟨w7.heap.size + 0, 0, none⟩) 1 1] 51) (Obj.cells #[.int .i64 (i : Int), .int .i64 0, .slice (some ⟨w7.heap.size + 1, 0, none⟩) 1 1] 51) (Obj.cells #[.bool false, .int .i64 0, .int .i64 (i : Int), .int .i64 0, .int .i64 0, .int .i64 0, .int .i64 0, .int .i64 0, .int .i64 0, .slice (some ⟨w7.heap.size + 3, 0, none⟩) 1 1, .bool false, .int .i64 1, .int .i64 0, .int .i64 (i : Int), .int .i64 0, .int .i64 0, .int .i64 0, .int .i64 0, .int .i64 0, .slice (some ⟨w7.heap.size + 2, 0, none⟩) 1 1] 37)) rfl (by exact al5_3 w7 (Obj.cells #[.int .i64 (2 * (((i : Int) + 1) % (k : Int)))] 3) (Obj.cells #[.int .i64 (2 * (i : Int) + 1)] 3) (Obj.cells #[.int .i64 0, .int .i64 0, .slice (some ⟨w7.heap.size + 0, 0, none⟩) 1 1] 51) (Obj.cells #[.int .i64 (i : Int), .int .i64 0, .slice (some ⟨w7.heap.size + 1, 0, none⟩) 1 1] 51) (Obj.cells #[.bool false, .int .i64 0, .int .i64 (i : Int), .int .i64 0, .int .i64 0, .int .i64 0, .int .i64 0, .int .i64 0, .int .i64 0, .slice (some ⟨w7.heap.size + 3, 0, none⟩) 1 1, .bool false, .int .i64 1, .int .i64 0, .int .i64 (i : Int), .int .i64 0, .int .i64 0, .int .i64 0, .int .i64 0, .int .i64 0, .slice (some ⟨w7.heap.size + 2, 0, none⟩) 1 1] 37)) (HSQ.out _ (by omega)) (HSQ.out _ (by omega))) (nodT_hy (x := rgE' k i) (sp := 0) (cj := 0) (kids := [2 * (((i : Int) + 1) % (k : Int))]) (n := 1) (p := w7.heap.size + 0) (q := w7.heap.size + 2) (arr := #[.int .i64 (2 * (((i : Int) + 1) % (k : Int)))]) rfl rfl (by decide) (by exact al5_0 w7 (Obj.cells #[.int .i64 (2 * (((i : Int) + 1) % (k : Int)))] 3) (Obj.cells #[.int .i64 (2 * (i : Int) + 1)] 3) (Obj.cells #[.int .i64 0, .int .i64 0, .slice (some ⟨w7.heap.size + 0, 0, none⟩) 1 1] 51) (Obj.cells #[.int .i64 (i : Int), .int .i64 0, .slice (some ⟨w7.heap.size + 1, 0, none⟩) 1 1] 51) (Obj.cells #[.bool false, .int .i64 0, .int .i64 (i : Int), .int .i64 0, .int .i64 0, .int .i64 0, .int .i64 0, .int .i64 0, .int .i64 0, .slice (some ⟨w7.heap.size + 3, 0, none⟩) 1 1, .bool false, .int .i64 1, .int .i64 0, .int .i64 (i : Int), .int .i64 0, .int .i64 0, .int .i64 0, .int .i64 0, .int .i64 0, .slice (some ⟨w7.heap.size + 2, 0, none⟩) 1 1] 37)) rfl (by exact al5_2 w7 (Obj.cells #[.int .i64 (2 * (((i : Int) + 1) % (k : Int)))] 3) (Obj.cells #[.int .i64 (2 * (i : Int) + 1)] 3) (Obj.cells #[.int .i64 0, .int .i64 0, .slice (some ⟨w7.heap.size + 0, 0, none⟩) 1 1] 51) (Obj.cells #[.int .i64 (i : Int), .int .i64 0, .slice (some ⟨w7.heap.size + 1, 0, none⟩) 1 1] 51) (Obj.cells #[.bool false, .int .i64 0, .int .i64 (i : Int), .int .i64 0, .int .i64 0, .int .i64 0, .int .i64 0, .int .i64 0, .int .i64 0, .slice (some ⟨w7.heap.size + 3, 0, none⟩) 1 1, .bool false, .int .i64 1, .int .i64 0, .int .i64 (i : Int), .int .i64 0, .int .i64 0, .int .i64 0, .int .i64 0, .int .i64 0, .slice (some ⟨w7.heap.size + 2, 0, none⟩) 1 1] 37)) (HSQ.out _ (by omega)) (HSQ.out _ (by omega)))) (b := w7.heap.size + 4) (arr := #[.bool false, .int .i64 0, .int .i64 (i : Int), .int .i64 0, .int .i64 0, .int .i64 0, .int .i64 0, .int .i64 0, .int .i64 0, .slice (some ⟨w7.heap.size + 3, 0, none⟩) 1 1, .bool false, .int .i64 1, .int .i64 0, .int .i64 (i : Int), .int .i64 0, .int .i64 0, .int .i64 0, .int .i64 0, .int .i64 0, .slice (some ⟨w7.heap.size + 2, 0, none⟩) 1 1]) (by rfl) (by exact al5_4 w7 (Obj.cells #[.int .i64 (2 * (((i : Int) + 1) % (k : Int)))] 3) (Obj.cells #[.int .i64 (2 * (i : Int) + 1)] 3) (Obj.cells #[.int .i64 0, .int .i64 0, .slice (some ⟨w7.heap.size + 0, 0, none⟩) 1 1] 51) (Obj.cells #[.int .i64 (i : Int), .int .i64 0, .slice (some ⟨w7.heap.size + 1, 0, none⟩) 1 1] 51) (Obj.cells #[.bool false, .int .i64 0, .int .i64 (i : Int), .int .i64 0, .int .i64 0, .int .i64 0, .int .i64 0, .int .i64 0, .int .i64 0, .slice (some ⟨w7.heap.size + 3, 0, none⟩) 1 1, .bool false, .int .i64 1, .int .i64 0, .int .i64 (i : Int), .int .i64 0, .int .i64 0, .int .i64 0, .int .i64 0, .int .i64 0, .slice (some ⟨w7.heap.size + 2, 0, none⟩) 1 1] 37)) (by rfl) (by rw [rgOut_len]; simp; omega) (by decide) (by have := HSZ.out; simp; omega) ?_); intro v6 w6 o6 g6 t6; obtain ⟨A6, k6, ev6, -, -, -⟩ := id o6.shape; rw [HLO.out] at ev6; subst ev6; have q6 := blk_grown (blk_below C2.out (by repeat (first | exact below_refl _ | apply below_alloc' | apply below_drew'))) g6 (fun e => by have := (OO.out.base e.symm).1; have := HBS.out; omega); have m0 : w6.cell? ⟨bg + 2, 0, none⟩ = some (.int .i64 0) := blk_cell q6 0; have m1 : w6.cell? ⟨bg + 2, 1, none⟩ = some (.slice Ao (2 * i) ko) := blk_cell q6 1; have f1 : w6.frozen? ⟨bg + 2, 1, none⟩ = false := blk_frozen q6 1; have HPL := Lib.hid (HPG.out _ w6 (by repeat (first | exact below_refl _ | apply below_alloc' | apply below_drew')) g6); have HZ := Lib.hid (rg2_out (j' := i + 1) HBS.out (blk_below C1.out (by repeat (first | exact below_refl _ | apply below_alloc' | apply below_drew'))) (blk_below C2.out (by repeat (first | exact below_refl _ | apply below_alloc' | apply below_drew'))) (OI.out.below (by repeat (first | exact below_refl _ | apply below_alloc' | apply below_drew'))) (OO.out.below (by repeat (first | exact below_refl _ | apply below_alloc' | apply below_drew'))) HNE.out (HU.out.trans (Upd.of_below (by repeat (first | exact below_refl _ | apply below_alloc' | apply below_drew')))) ROS.out o6 g6 t6); clear o6 g6 t6 q6)
                  refine hK.out _ _ ?_ (fun hHeld => ?_)
                  · (try dsimp only)
                    (first | exact ⟨kS _ HPL.out, m1⟩ | exact ⟨kS _ (blk_below HPP.out (by repeat (first | exact below_refl _ | apply below_alloc' | apply below_drew'))), below_cell (w := w7) (by repeat (first | exact below_refl _ | apply below_alloc' | apply below_drew')) c1⟩)
                  clear hK K
                  try simp only [Act.put, List.setIfInBounds_toArray, List.set_cons_zero, List.set_cons_succ]
                  refine wpAnyH_take (i := 23) (v := ?_) rfl (by kernel_rfl) (by kernel_rfl) (by kernel_rfl) (fun _ _ _ h => h) (Or.inl ⟨by rfl, ?_⟩) (by assumption) ?_
                  rotate_left 1
                  · (intro w hSw; (try dsimp only at hSw); (go_simp <;> with_reducible rfl))
                  try simp only [Act.put, List.setIfInBounds_toArray, List.set_cons_zero, List.set_cons_succ]
                  refine wpAnyH_done (by kernel_rfl) ?_ _
                  refine lastQ_normal rfl (fun K hK => ?_)
                  go_simp
                  refine hK.out _ _ ?_
                  clear hK K
                  try simp only [Act.put, List.setIfInBounds_toArray, List.set_cons_zero, List.set_cons_succ]
                  go_wp2_with fail
                  go_roundw
                  case rel =>
                    first
                      | exact ⟨i + 1, by go_num, by omega, HZ.out⟩
                      | exact ⟨i + 1, by go_num, by omega, rg2_below HZ.out (below_drew' (below_refl _))⟩
                      | ((repeat apply Exists.intro); exact ⟨⟨i + 1, by go_num, by omega, HZ.out⟩, rfl⟩)
                      | ((repeat apply Exists.intro); exact ⟨⟨i + 1, by go_num, by omega, rg2_below HZ.out (below_drew' (below_refl _))⟩, rfl⟩)
                  case measure => simp [intOf]; omega
              ·
                try clear hHeld
                go_simp
                refine hK.out _ _ ?_ (fun hHeld => ?_)
                · (try dsimp only)
                  (first | exact ⟨kS _ HPL.out, m1⟩ | exact ⟨kS _ (blk_below HPP.out (by repeat (first | exact below_refl _ | apply below_alloc' | apply below_drew'))), below_cell (w := w7) (by repeat (first | exact below_refl _ | apply below_alloc' | apply below_drew')) c1⟩)
                clear hK K
                try simp only [Act.put, List.setIfInBounds_toArray, List.set_cons_zero, List.set_cons_succ]
                refine wpAnyH_take (i := 20) (v := ?_) rfl (by kernel_rfl) (by kernel_rfl) (by kernel_rfl) (fun _ _ _ h => h) (Or.inl ⟨by rfl, ?_⟩) (by assumption) ?_
                rotate_left 1
                · (intro w hSw; (try dsimp only at hSw); (go_simp <;> with_reducible rfl))
                try simp only [Act.put, List.setIfInBounds_toArray, List.set_cons_zero, List.set_cons_succ]
                refine wpAnyH_ready (rs := [7]) (by kernel_rfl) (by simp) ?_
                refine AllReadyH.cons rfl (fun K hK => ?_) AllReadyH.nil
                try clear hHeld
                go_simp
                refine hK.out _ _ ?_ (fun hHeld => ?_)
                · (try dsimp only)
                  (first | exact ⟨kS _ HPL.out, m1⟩ | exact ⟨kS _ (blk_below HPP.out (by repeat (first | exact below_refl _ | apply below_alloc' | apply below_drew'))), below_cell (w := w7) (by repeat (first | exact below_refl _ | apply below_alloc' | apply below_drew')) c1⟩)
                clear hK K
                try simp only [Act.put, List.setIfInBounds_toArray, List.set_cons_zero, List.set_cons_succ]
                refine wpAnyH_take (i := 8) (v := ?_) rfl (by kernel_rfl) (by kernel_rfl) (by kernel_rfl) (fun _ _ _ h => h) (Or.inl ⟨by rfl, ?_⟩) (by assumption) ?_
                rotate_left 1
                · (intro w hSw; (try dsimp only at hSw); (go_simp <;> with_reducible rfl))
                try simp only [Act.put, List.setIfInBounds_toArray, List.set_cons_zero, List.set_cons_succ]
                refine wpAnyH_ready (rs := [9]) (by kernel_rfl) (by simp) ?_
                refine AllReadyH.cons rfl (fun K hK => ?_) AllReadyH.nil
                try clear hHeld
                go_simp
                refine hK.out _ _ ?_ (fun hHeld => ?_)
                · (try dsimp only)
                  (first | exact ⟨kS _ HPL.out, m1⟩ | exact ⟨kS _ (blk_below HPP.out (by repeat (first | exact below_refl _ | apply below_alloc' | apply below_drew'))), below_cell (w := w7) (by repeat (first | exact below_refl _ | apply below_alloc' | apply below_drew')) c1⟩)
                clear hK K
                try simp only [Act.put, List.setIfInBounds_toArray, List.set_cons_zero, List.set_cons_succ]
                refine wpAnyH_take (i := 10) (v := ?_) rfl (by kernel_rfl) (by kernel_rfl) (by kernel_rfl) (fun _ _ _ h => h) (Or.inl ⟨by rfl, ?_⟩) (by assumption) ?_
                rotate_left 1
                · (intro w hSw; (try dsimp only at hSw); (go_simp <;> with_reducible rfl))
                try simp only [Act.put, List.setIfInBounds_toArray, List.set_cons_zero, List.set_cons_succ]
                refine wpAnyH_ready (rs := [21]) (by kernel_rfl) (by simp) ?_
                refine AllReadyH.cons rfl (fun K hK => ?_) AllReadyH.nil
                try clear hHeld
                go_simp
                refine hK.out _ _ ?_ (fun hHeld => ?_)
                · (try dsimp only)
                  (first | exact ⟨kS _ HPL.out, m1⟩ | exact ⟨kS _ (blk_below HPP.out (by repeat (first | exact below_refl _ | apply below_alloc' | apply below_drew'))), below_cell (w := w7) (by repeat (first | exact below_refl _ | apply below_alloc' | apply below_drew')) c1⟩)
                clear hK K
                try simp only [Act.put, List.setIfInBounds_toArray, List.set_cons_zero, List.set_cons_succ]
                refine wpAnyH_ready (rs := [22]) (by kernel_rfl) (by simp) ?_
                refine AllReadyH.cons rfl (fun K hK => ?_) AllReadyH.nil
                try clear hHeld
                ((refine step_append_list (d := NR) (base := w4.heap.size) (by rfl) _ _ 38 37 _ 96 (by rfl) Try.underlying38 infoNd (by rfl) (by show 0 < 10; decide) (v := (.slice Ao (2 * i) ko)) (xs := (rgOut k i)) (by rfl) (OO.out.below (by repeat (first | exact below_refl _ | apply below_alloc' | apply below_drew'))) [rgD i, rgE' k i] [nodCs (rgD i) (.slice (some ⟨w7.heap.size + 3, 0, none⟩) 1 1), nodCs (rgE' k i) (.slice (some ⟨w7.heap.size + 1, 0, none⟩) 1 1)] rfl (hy2 (nodT_hy (x := rgD i) (sp := (i : Int)) (cj := 0) (kids := [2 * (i : Int) + 1]) (n := 1) (p := w7.heap.size + 2) (q := w7.heap.size + 3) (arr := #[.int .i64 (2 * (i : Int) + 1)]) rfl rfl (by decide) (by exact al5_2 w7 (Obj.cells #[.int .i64 (2 * (((i : Int) + 1) % (k : Int)))] 3) (Obj.cells #[.int .i64 0, .int .i64 0, .slice (some ⟨w7.heap.size + 0, 0, none⟩) 1 1] 51) (Obj.cells #[.int .i64 (2 * (i : Int) + 1)] 3) (Obj.cells #[.int .i64 (i : Int), .int .i64 0, .slice (some ⟨w7.heap.size + 2, 0, none⟩) 1 1] 51) (Obj.cells #[.bool false, .int .i64 0, .int .i64 (i : Int), .int .i64 0, .int .i64 0, .int .i64 0, .int .i64 0, .int .i64 0, .int .i64 0, .slice (some ⟨w7.heap.size + 3, 0, none⟩) 1 1, .bool false, .int .i64 1, .int .i64 0, .int .i64 (i : Int), .int .i64 0, .int .i64 0, .int .i64 0, .int .i64 0, .int .i64 0, .slice (some ⟨w7.heap.size + 1, 0, none⟩) 1 1] 37)) rfl (by exact al5_3 w7 (Obj.cells #[.int .i64 (2 * (((i : Int) + 1) % (k : Int)))] 3) (Obj.cells #[.int .i64 0, .int .i64 0, .slice (some ⟨w7.heap.size + 0, 0, none⟩) 1 1] 51) (Obj.cells #[.int .i64 (2 * (i : Int) + 1)] 3) (Obj.cells #[.int .i64 (i : Int), .int .i64 0, .slice (some ⟨w7.heap.size + 2, 0, none⟩) 1 1] 51) (Obj.cells #[.bool false, .int .i64 0, .int .i64 (i : Int), .int .i64 0, .int .i64 0, .int .i64 0, .int .i64 0, .int .i64 0, .int .i64 0, .slice (some ⟨w7.heap.size + 3, 0, none⟩) 1 1, .bool false, .int .i64 1, .int .i64 0, .int .i64 (i : Int), .int .i64 0, .int .i64 0, .int .i64 0, .int .i64 0, .int .i64 0, .slice (some ⟨w7.heap.size + 1, 0, none⟩) 1 1] 37)) (HSQ.out _ (by omega)) (HSQ.out _ (by omega))) (nodT_hy (x := rgE' k i) (sp := 0) (cj := 0) (kids := [2 * (((i : Int) + 1) % (k : Int))]) (n := 1) (p := w7.heap.size + 0) (q := w7.heap.size + 1) (arr := #[.int .i64 (2 * (((i : Int) + 1) % (k : Int)))]) rfl rfl (by decide) (by exact al5_0 w7 (Obj.cells #[.int .i64 (2 * (((i : Int) + 1) % (k : Int)))] 3) (Obj.cells #[.int .i64 0, .int .i64 0, .slice (some ⟨w7.heap.size + 0, 0, none⟩) 1 1] 51) (Obj.cells #[.int .i64 (2 * (i : Int) + 1)] 3) (Obj.cells #[.int .i64 (i : Int), .int .i64 0, .slice (some ⟨w7.heap.size + 2, 0, none⟩) 1 1] 51) (Obj.cells #[.bool false, .int .i64 0, .int .i64 (i : Int), .int .i64 0, .int .i64 0, .int .i64 0, .int .i64 0, .int .i64 0, .int .i64 0, .slice (some ⟨w7.heap.size + 3, 0, none⟩) 1 1, .bool false, .int .i64 1, .int .i64 0, .int .i64 (i : Int), .int .i64 0, .int .i64 0, .int .i64 0, .int .i64 0, .int .i64 0, .slice (some ⟨w7.heap.size + 1, 0, none⟩) 1 1] 37)) rfl (by exact al5_1 w7 (Obj.cells #[.int .i64 (2 * (((i : Int) + 1) % (k : Int)))] 3) (Obj.cells #[.int .i64 0, .int .i64 0, .slice (some ⟨w7.heap.size + 0, 0, none⟩) 1 1] 51) (Obj.cells #[.int .i64 (2 * (i : Int) + 1)] 3) (Obj.cells #[.int .i64 (i : Int), .int .i64 0, .slice (some ⟨w7.heap.size + 2, 0, none⟩) 1 1] 51) (Obj.cells #[.bool false, .int .i64 0, .int .i64 (i : Int), .int .i64 0, .int .i64 0, .int .i64 0, .int .i64 0, .int .i64 0, .int .i64 0, .slice (some ⟨w7.heap.size + 3, 0, none⟩) 1 1, .bool false, .int .i64 1, .int .i64 0, .int .i64 (i : Int), .int .i64 0, .int .i64 0, .int .i64 0, .int .i64 0, .int .i64 0, .slice (some ⟨w7.heap.size + 1, 0, none⟩) 1 1] 37)) (HSQ.out _ (by omega)) (HSQ.out _ (by omega)))) (b := w7.heap.size + 4) (arr := #[.bool false, .int .i64 0, .int .i64 (i : Int), .int .i64 0, .int .i64 0, .int .i64 0, .int .i64 0, .int .i64 0, .int .i64 0, .slice (some ⟨w7.heap.size + 3, 0, none⟩) 1 1, .bool false, .int .i64 1, .int .i64 0, .int .i64 (i : Int), .int .i64 0, .int .i64 0, .int .i64 0, .int .i64 0, .int .i64 0, .slice (some ⟨w7.heap.size + 1, 0, none⟩) 1 1]) (by rfl) (by exact al5_4 w7 (Obj.cells #[.int .i64 (2 * (((i : Int) + 1) % (k : Int)))] 3) (Obj.cells #[.int .i64 0, .int .i64 0, .slice (some ⟨w7.heap.size + 0, 0, none⟩) 1 1] 51) (Obj.cells #[.int .i64 (2 * (i : Int) + 1)] 3) (Obj.cells #[.int .i64 (i : Int), .int .i64 0, .slice (some ⟨w7.heap.size + 2, 0, none⟩) 1 1] 51) (Obj.cells #[.bool false, .int .i64 0, .int .i64 (i : Int), .int .i64 0, .int .i64 0, .int .i64 0, .int .i64 0, .int .i64 0, .int .i64 0, .slice (some ⟨w7.heap.size + 3, 0, none⟩) 1 1, .bool false, .int .i64 1, .int .i64 0, .int .i64 (i : Int), .int .i64 0, .int .i64 0, .int .i64 0, .int .i64 0, .int .i64 0, .slice (some ⟨w7.heap.size + 1, 0, none⟩) 1 1] 37)) (by rfl) (by rw [rgOut_len]; simp; omega) (by decide) (by have := HSZ.out; simp; omega) ?_); intro v6 w6 o6 g6 t6; obtain ⟨A6, k6, ev6, -, -, -⟩ := id o6.shape; rw [HLO.out] at ev6; subst ev6; have q6 := blk_grown (blk_below C2.out (by repeat (first | exact below_refl _ | apply below_alloc' | apply below_drew'))) g6 (fun e => by have := (OO.out.base e.symm).1; have := HBS.out; omega); have m0 : w6.cell? ⟨bg + 2, 0, none⟩ = some (.int .i64 0) := blk_cell q6 0; have m1 : w6.cell? ⟨bg + 2, 1, none⟩ = some (.slice Ao (2 * i) ko) := blk_cell q6 1; have f1 : w6.frozen? ⟨bg + 2, 1, none⟩ = false := blk_frozen q6 1; have HPL := Lib.hid (HPG.out _ w6 (by repeat (first | exact below_refl _ | apply below_alloc' | apply below_drew')) g6); have HZ := Lib.hid (rg2_out (j' := i + 1) HBS.out (blk_below C1.out (by repeat (first | exact below_refl _ | apply below_alloc' | apply below_drew'))) (blk_below C2.out (by repeat (first | exact below_refl _ | apply below_alloc' | apply below_drew'))) (OI.out.below (by repeat (first | exact below_refl _ | apply below_alloc' | apply below_drew'))) (OO.out.below (by repeat (first | exact below_refl _ | apply below_alloc' | apply below_drew'))) HNE.out (HU.out.trans (Upd.of_below (by repeat (first | exact below_refl _ | apply below_alloc' | apply below_drew')))) ROS.out o6 g6 t6); clear o6 g6 t6 q6)
                refine hK.out _ _ ?_ (fun hHeld => ?_)
                · (try dsimp only)
                  (first | exact ⟨kS _ HPL.out, m1⟩ | exact ⟨kS _ (blk_below HPP.out (by repeat (first | exact below_refl _ | apply below_alloc' | apply below_drew'))), below_cell (w := w7) (by repeat (first | exact below_refl _ | apply below_alloc' | apply below_drew')) c1⟩)
                clear hK K
                try simp only [Act.put, List.setIfInBounds_toArray, List.set_cons_zero, List.set_cons_succ]
                refine wpAnyH_take (i := 23) (v := ?_) rfl (by kernel_rfl) (by kernel_rfl) (by kernel_rfl) (fun _ _ _ h => h) (Or.inl ⟨by rfl, ?_⟩) (by assumption) ?_
                rotate_left 1
                · (intro w hSw; (try dsimp only at hSw); (go_simp <;> with_reducible rfl))
                try simp only [Act.put, List.setIfInBounds_toArray, List.set_cons_zero, List.set_cons_succ]
                refine wpAnyH_done (by kernel_rfl) ?_ _
                refine lastQ_normal rfl (fun K hK => ?_)
                go_simp
                refine hK.out _ _ ?_
                clear hK K
                try simp only [Act.put, List.setIfInBounds_toArray, List.set_cons_zero, List.set_cons_succ]
                go_wp2_with fail
                go_roundw
                case rel =>
                  first
                    | exact ⟨i + 1, by go_num, by omega, HZ.out⟩
                    | exact ⟨i + 1, by go_num, by omega, rg2_below HZ.out (below_drew' (below_refl _))⟩
                    | ((repeat apply Exists.intro); exact ⟨⟨i + 1, by go_num, by omega, HZ.out⟩, rfl⟩)
                    | ((repeat apply Exists.intro); exact ⟨⟨i + 1, by go_num, by omega, rg2_below HZ.out (below_drew' (below_refl _))⟩, rfl⟩)
                case measure => simp [intOf]; omega
            --E18
        · have hie : i = k := by omega
          obtain ⟨vi, vo, h1, h2, hI, hO, -, hu⟩ := hst
          rw [hie] at hI hO
          obtain ⟨vn, vr, g0, -, -, hN, hR, hB⟩ := HST.out
          obtain ⟨An, kn, rfl, n1, n2, n3⟩ := id hN.shape
          obtain ⟨Ar, kr, rfl, n4, n5, -⟩ := id hR.shape
          obtain ⟨Ai, ki, rfl, m1, m2, -⟩ := id hI.shape
          obtain ⟨Ao, ko, rfl, o1, o2, -⟩ := id hO.shape
          have hN' := hN.upd hu (fun b hb => by rcases hb with rfl | rfl <;> omega)
          have hR' := hR.upd hu (fun b hb => by rcases hb with rfl | rfl <;> omega)
          have hg0 : wr.heap[bg]? = _ := (hu.block bg (blk_lt g0) (by rintro (h | h) <;> omega)).trans g0
          have HBR := Lib.hid (show Below w.heap.size w wr from hB.trans (hu.below hB.size (fun b hb => by have := HWB.out; rcases hb with rfl | rfl <;> omega)))
          have nC : Rd.str.C wr An (rgN k) := by
            obtain ⟨A', k', e, -, -, hC⟩ := hN'.shape
            injection e with e _ _
            rw [e]; exact hC
          have rC : rulRd.C wr Ar (rgR k k) := by
            obtain ⟨A', k', e, -, -, hC⟩ := hR'.shape
            injection e with e _ _
            rw [e]; exact tyRd.C hC
          have iC : nodRd.C wr Ai (rgIn k r k) := by
            obtain ⟨A', k', e, -, -, hC⟩ := hI.shape
            injection e with e _ _
            rw [e]; exact tyRd.C hC
          have oC : nodRd.C wr Ao (rgOut k k) := by
            obtain ⟨A', k', e, -, -, hC⟩ := hO.shape
            injection e with e _ _
            rw [e]; exact tyRd.C hC
          have CI := Lib.hid (fun (wz : World) (hz : Below wr.heap.size wr wz) => rg_in_chk (w := wz) hk1 hk8 hr0 hr1 n1 n2 (nC.mono hz) n4 n5 (rC.mono hz) m1 m2 (iC.mono hz))
          have CO := Lib.hid (fun (wz : World) (hz : Below wr.heap.size wr wz) => rg_out_chk (w := wz) hk1 hk8 n1 n2 (nC.mono hz) n4 n5 (rC.mono hz) o1 o2 (oC.mono hz))
          have HG0 := Lib.hid hg0
          have HI1 := Lib.hid h1
          have HI2 := Lib.hid h2
          simp only [rgN_len, rgR_len, rgIn_len, rgOut_len] at CI CO HG0 HI1 HI2
          have a0 : wr.cell? ⟨bg, 0, none⟩ = some (.int .i64 0) := blk_cell HG0.out 0
          have a1 : wr.cell? ⟨bg, 1, none⟩ = some (.slice An k kn) := blk_cell HG0.out 1
          have a2 : wr.cell? ⟨bg, 2, none⟩ = some (.slice Ar k kr) := blk_cell HG0.out 2
          have b0 : wr.cell? ⟨bg + 1, 0, none⟩ = some (.int .i64 0) := blk_cell HI1.out 0
          have b1 : wr.cell? ⟨bg + 1, 1, none⟩ = some (.slice Ai (3 * k) ki) := blk_cell HI1.out 1
          clear hie h1 h2 hI hO hu g0 hN hR hB hN' hR' hg0 nC rC iC oC n3
          go_upto_region 20 with (first
            | (go_at_call 7; refine (CI.out _ (below_refl _)).mono ?_; rintro e w8 ⟨rfl, hb8⟩; have HB8 := Lib.hid hb8; clear hb8 a0 a1 a2 b0 b1)
            | fail)
          have a0 : w8.cell? ⟨bg, 0, none⟩ = some (.int .i64 0) := blk_cell (blk_below HG0.out HB8.out) 0
          have a1 : w8.cell? ⟨bg, 1, none⟩ = some (.slice An k kn) := blk_cell (blk_below HG0.out HB8.out) 1
          have a2 : w8.cell? ⟨bg, 2, none⟩ = some (.slice Ar k kr) := blk_cell (blk_below HG0.out HB8.out) 2
          have b0 : w8.cell? ⟨bg + 1 + 1, 0, none⟩ = some (.int .i64 0) := blk_cell (blk_below HI2.out HB8.out) 0
          have b1 : w8.cell? ⟨bg + 1 + 1, 1, none⟩ = some (.slice Ao (2 * k) ko) := blk_cell (blk_below HI2.out HB8.out) 1
          go_wp2_with (first
            | (go_at_call 7; refine (CO.out _ HB8.out).mono ?_; rintro e w9 ⟨rfl, hb9⟩; have HB9 := Lib.hid (below_then HB8.out hb9); clear hb9 a0 a1 a2 b0 b1)
            | (go_at_call 8; refine (num_any _ _).mono ?_; rintro e wq ⟨rfl, hwq⟩; rw [hwq]; clear hwq)
            | fail)
          go_ret
          exact ⟨rfl, below_then HBR.out HB9.out⟩
end Go.Proofs.Ytfmfoiecphhhiaa
