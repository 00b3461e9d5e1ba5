/-
  Z2: templelaw19.CheckBytes answers true.
-/
import Derived.Test.YtfmfoiecphhhiaaZ1
import Derived.Test.YtfmfoiecphhhiaaB1
import Derived.Test.YtfmfoiecphhhiaaA6
import Derived.BigRegion
import Derived.Deep.CutBlock
import Derived.Deep.RegionLaw
set_option linter.unusedSimpArgs false
set_option linter.unusedVariables false
namespace Go.Proofs.Ytfmfoiecphhhiaa
open Go.RowKit

/-- Elements that stand still whatever is done to one block. -/
def holdRd {α : Type} (b : Nat) (d : Rd α) : Rd α where
  sz := d.sz
  K w x cs := ∀ w', Upd (fun k => k = b) w w' → d.K w' x cs
  len h := d.len (h _ (Upd.refl _ _))
  one h := d.one (h _ (Upd.refl _ _))
  mono hb h := fun w' hu => h w' ((Upd.of_below hb).trans hu)
theorem holdRd.C {α : Type} {b : Nat} {d : Rd α} {w : World} {A : Option Addr} {xs : List α} (h : (holdRd b d).C w A xs) : d.C w A xs := fun i x hx => by
  obtain ⟨ad, cs, e, hK, hc⟩ := h i x hx
  exact ⟨ad, cs, e, hK w (Upd.refl _ _), hc⟩
/-- A block as it was. -/
def patch (w w3 : World) (b : Nat) : World := { w3 with heap := match w.heap[b]? with | some o => w3.heap.setIfInBounds b o | none => w3.heap }
theorem patch_size (w w3 : World) (b : Nat) : (patch w w3 b).heap.size = w3.heap.size := by
  unfold patch
  cases w.heap[b]? <;> simp
theorem patch_other {w w3 : World} {b k : Nat} (h : k ≠ b) : (patch w w3 b).heap[k]? = w3.heap[k]? := by
  unfold patch
  cases w.heap[b]? with
  | none => rfl
  | some o => simp only; rw [Array.getElem?_setIfInBounds_ne (Ne.symm h)]
theorem patch_same {w w3 : World} {b : Nat} (h : b < w.heap.size) (h3 : w.heap.size ≤ w3.heap.size) : (patch w w3 b).heap[b]? = w.heap[b]? := by
  unfold patch
  rw [Array.getElem?_eq_getElem h]
  simp only
  rw [Array.getElem?_setIfInBounds_self_of_lt (by omega)]
theorem own_hold {α : Type} {b : Nat} {d : Rd α} {e : TypeId} {base : Nat} {w w1 : World} {v : Value} {xs : List α} (h : Own (holdRd b d) e base w v xs) (hu : Upd (fun k => k = b) w w1) (hb : v.ownBlock ≠ some b) : Own (holdRd b d) e base w1 v xs := by
  obtain ⟨css, h1, h2, h3⟩ := h
  refine ⟨css, h1, ownsRow_upd h2 hu (fun k hk (e : k = b) => hb (e ▸ hk)), fun i x cs hx hc w2 hu2 w3 hu3 => ?_⟩
  have hs : w.heap.size ≤ w3.heap.size := Nat.le_trans hu.size (Nat.le_trans hu2.size hu3.size)
  refine h3 i x cs hx hc (patch w w3 b) ⟨hu3.os.trans (hu2.os.trans hu.os), hu3.tape.trans (hu2.tape.trans hu.tape), hu3.output.trans (hu2.output.trans hu.output), by rw [patch_size]; exact hs, fun k hk hn => ?_⟩ w3 ⟨rfl, rfl, rfl, by rw [patch_size]; exact Nat.le_refl _, fun k hk hn => (patch_other hn).symm⟩
  by_cases e : k = b
  · subst e; exact patch_same hk hs
  · rw [patch_other e]
    exact (hu3.block k (Nat.lt_of_lt_of_le hk (Nat.le_trans hu.size hu2.size)) e).trans ((hu2.block k (Nat.lt_of_lt_of_le hk hu.size) hn).trans (hu.block k hk e))
theorem own_one {α : Type} {d : Rd α} {e : TypeId} {base g : Nat} {w : World} {y : α} {cs : Array Value} (h : w.heap[g]? = some (.cells cs e (0, 0))) (hs : cs.size = d.sz) (hb : base ≤ g) (hK : ∀ w', Upd (fun b => b < base ∨ b = g) w w' → d.K w' y cs.toList) : Own d e base w (.slice (some ⟨g, 0, none⟩) 1 1) [y] :=
  ⟨[cs.toList], rfl, ⟨by simp [hs], .inr ⟨g, 1, cs, rfl, hb, h, Nat.le_refl _, by decide, by simp [hs], by rw [show [y].length * d.sz = cs.toList.length by simp [hs], List.take_length]; simp⟩⟩, fun i x c hx hc w' hu => by
    cases i with
    | zero =>
      simp at hx hc
      subst hx
      subst hc
      exact hK w' (hu.mono (fun k hk => hk.imp id (fun h => by simp [Value.ownBlock] at h; exact h.symm)))
    | succ i => simp at hx⟩
/-- One pick with one kid, laid. -/
theorem pk_lie {w : World} {p q : Nat} {sp cj kid : Int} (h0 : w.heap[p]? = some (.cells #[.int .i64 kid] 3 (0, 0))) (h1 : w.heap[q]? = some (.cells #[.int .i64 sp, .int .i64 cj, .slice (some ⟨p, 0, none⟩) 1 1] 51 (0, 0))) : pckRd.C w (some ⟨q, 0, none⟩) [⟨sp, cj, [kid]⟩] :=
  C_blk [[.int .i64 sp, .int .i64 cj, .slice (some ⟨p, 0, none⟩) 1 1]] h1 rfl ⟨⟨pckRd_mk (x := ⟨sp, cj, [kid]⟩) (Nat.le_refl 1) (by decide) (C_blk [[.int .i64 kid]] h0 rfl ⟨⟨rfl, rfl⟩, trivial⟩), rfl⟩, trivial⟩
def nodCs (x : Nod) (pv : Value) : List Value := [.bool x.sign, .int .i64 x.kind, .int .i64 x.name, .int .i64 x.plc.rule, .int .i64 x.plc.conj, .int .i64 x.plc.pos, .int .i64 x.i, .int .i64 x.j, .int .i64 x.rank, pv]
theorem nod_hy0 {S : Nat → Prop} {bc : Nat} {w : World} {x : Nod} (hx : x.picks = []) : ∀ w', Upd S w w' → (holdRd bc nodRd).K w' x (nodCs x (.slice none 0 0)) := fun w' _ w'' _ => by
  have := nodRd_mk (w := w'') (x := x) (A := none) (c := 0) (by rw [hx]; exact Nat.le_refl _) (by decide) (by rw [hx]; exact Rd.C.nil _ _ _)
  rw [hx] at this
  exact this
theorem nod_hy1 {S : Nat → Prop} {bc p q : Nat} {w : World} {x : Nod} {sp cj kid : Int} (hx : x.picks = [⟨sp, cj, [kid]⟩]) (h0 : w.heap[p]? = some (.cells #[.int .i64 kid] 3 (0, 0))) (h1 : w.heap[q]? = some (.cells #[.int .i64 sp, .int .i64 cj, .slice (some ⟨p, 0, none⟩) 1 1] 51 (0, 0)))
    (hp : ¬ S p) (hq : ¬ S q) (hpb : p ≠ bc) (hqb : q ≠ bc) : ∀ w', Upd S w w' → (holdRd bc nodRd).K w' x (nodCs x (.slice (some ⟨q, 0, none⟩) 1 1)) := fun w' hu w'' hu2 => by
  have a0 : w''.heap[p]? = _ := (hu2.block p (Nat.lt_of_lt_of_le (blk_lt h0) hu.size) hpb).trans ((hu.block p (blk_lt h0) hp).trans h0)
  have a1 : w''.heap[q]? = _ := (hu2.block q (Nat.lt_of_lt_of_le (blk_lt h1) hu.size) hqb).trans ((hu.block q (blk_lt h1) hq).trans h1)
  have := nodRd_mk (w := w'') (x := x) (A := some ⟨q, 0, none⟩) (c := 1) (by rw [hx]; exact Nat.le_refl _) (by decide) (by rw [hx]; exact pk_lie a0 a1)
  rw [hx] at this
  exact this
theorem infoNd : (Try.prog.info? 37).map (fun i => (i.zero, i.size, i.bytes)) = some (some (.agg #[.bool false, .int .i64 0, .int .i64 0, .int .i64 0, .int .i64 0, .int .i64 0, .int .i64 0, .int .i64 0, .int .i64 0, .slice none 0 0]), 10, 96) := by kernel_rfl
theorem symK (w : World) (s : Sym) : symRd.K w s [.int .i64 s.name, .int .i64 s.lo, .int .i64 s.hi] := ⟨[_], [_, _], rfl, rfl, [_], [_], rfl, rfl, rfl⟩
theorem and_smallZ (x : Int) {m : Nat} (hm : m < 9223372036854775808) : 0 ≤ bits .and .i64 x m ∧ bits .and .i64 x m ≤ m := by
  show 0 ≤ IntKind.i64.wrap ((BitVec.ofInt 64 x &&& BitVec.ofInt 64 (m : Int)).toNat : Int) ∧ IntKind.i64.wrap ((BitVec.ofInt 64 x &&& BitVec.ofInt 64 (m : Int)).toNat : Int) ≤ m
  have h2 : (BitVec.ofInt 64 (m : Int)).toNat = m := by rw [BitVec.ofInt_natCast, BitVec.toNat_ofNat]; exact Nat.mod_eq_of_lt (by omega)
  rw [BitVec.toNat_and, h2]
  have h3 : (BitVec.ofInt 64 x).toNat &&& m ≤ m := Nat.and_le_right
  rw [IntWalk.i64_in _ (by omega)]
  omega
def rkI (bs k : Nat) (n : Nat) : Int := (bs : Int) + k + 1 - n
def chO (J : Int) (n : Nat) : List Obj := []
/-- Nodes that have been put in a row; the proof's block bc, what stood ahead. -/
def Bl2 (w5 : World) (bc base : Nat) (s : Bool) (J : Int) (m : Nat) (rk : Nat → Int) (cnt : Value) (wr : World) : Prop :=
  ∃ (n : Nat) (v : Value), cnt = .int .i64 n ∧ n ≤ m + 1 ∧ wr.heap[bc]? = some (.cells #[.int .i64 0, v] 40 (0, 0)) ∧ Own (holdRd bc nodRd) 37 base wr v (chN s J m rk n) ∧ Below base w5 wr
theorem own_ne_cert {bc base : Nat} {w : World} {v : Value} {xs : List Nod} {cs : Array Value} (hO : Own (holdRd bc nodRd) 37 base w v xs) (hC : w.heap[bc]? = some (.cells cs 40 (0, 0))) {b : Nat} (hb : v.ownBlock = some b) : b ≠ bc := by
  obtain ⟨cur, hc⟩ := own_block_type hO hb
  exact blk_type_ne hc hC (by decide)
theorem bl_next {w5 w6 w7 : World} {s : Bool} {J : Int} {m bc base n : Nat} {rk : Nat → Int} {v v7 : Value} {row : Obj} (hC : w6.heap[bc]? = some (.cells #[.int .i64 0, v] 40 (0, 0))) (hbc : base ≤ bc) (hO : Own (holdRd bc nodRd) 37 base w6 v (chN s J m rk n))
    (O7 : Own (holdRd bc nodRd) 37 base w7 v7 (chN s J m rk n ++ [chSeq s J m rk n])) (G7 : (w6.alloc row).grownBy w7 v.ownBlock) (hb : Below base w5 w6) (hn : n ≤ m) : Bl2 w5 bc base s J m rk (.int .i64 ((n : Int) + 1)) (w7.setCell ⟨bc, 1, none⟩ v7) := by
  have hl := blk_lt hC
  have q : w7.heap[bc]? = some (.cells #[.int .i64 0, v] 40 (0, 0)) := blk_grown (blk_below hC (below_alloc' (below_refl w6) row)) G7 (fun e => own_ne_cert hO hC e.symm rfl)
  refine ⟨n + 1, v7, by go_num, by omega, blk_set q 1 v7, ?_, ?_⟩
  · rw [chN_succ]
    exact own_hold O7 ((Upd.refl (fun k => k = bc) w7).setCell (p := ⟨bc, 1, none⟩) rfl v7) (fun e => own_ne_cert O7 q e rfl)
  · refine Below.setCell ?_ (by simp only; omega) _
    exact Below.grown (hb.trans ((below_alloc' (below_refl w6) row).mono (by omega))) G7 (by have := (below_alloc' (below_refl w6) row).size; omega) (fun k hk => (hO.base hk).1)
def objsY (n : Nat) (s : Bool) (J : Int) (rk : Nat → Int) : List Obj := [
  .cells #[.int .i64 1] 3 (0, 0),
  .cells #[.int .i64 0, .int .i64 0, .slice (some ⟨n, 0, none⟩) 1 1] 51 (0, 0),
  .cells #[.bool s, .int .i64 0, .int .i64 0, .int .i64 0, .int .i64 0, .int .i64 0, .int .i64 0, .int .i64 J, .int .i64 (rk 0), .slice (some ⟨n + 1, 0, none⟩) 1 1] 37 (0, 0),
  .cells #[.int .i64 0, .slice (some ⟨n + 2, 0, none⟩) 1 1] 40 (0, 0)]
theorem ba_beq (x y : ByteArray) : (x.toList == y.toList) = decide (x = y) := by
  rw [ByteArray.toList_eq, ByteArray.toList_eq]
  by_cases h : x = y
  · subst h; simp
  · rw [decide_eq_false h]
    cases he : (x.data.toList == y.data.toList) with
    | false => rfl
    | true =>
      exfalso
      apply h
      have e1 := eq_of_beq he
      exact ByteArray.ext (Array.toList_inj.1 e1)
def Bl3 (x y : ByteArray) (w8 : World) (cnt : Value) (wr : World) : Prop := ∃ a : Nat, cnt = .int .i64 a ∧ a ≤ x.size ∧ a ≤ y.size ∧ (∀ i : Nat, i < a → btz x i = btz y i) ∧ Below w8.heap.size w8 wr
theorem ch_wf {s : Bool} {J : Int} {m : Nat} {rk : Nat → Int} (h0 : 0 ≤ J) (h1 : J ≤ 100) (hm : m ≤ 100) : ∀ x ∈ (chC s J m rk).nodes, KyWf x.ky := fun x hx => by
  rcases ch_mem hx with rfl | ⟨i, hi, rfl⟩
  · intro k hk
    simp [chTop, Nod.ky] at hk
    omega
  · intro k hk
    simp [chSeq, Nod.ky] at hk
    omega
theorem chk_ch {w : World} {x y : ByteArray} {s : Bool} {J : Int} {m : Nat} {rk : Nat → Int} {n bc base : Nat} {Aq : Option Addr} {kq : Nat} (hx : x.size ≤ 8) (hy : y.size ≤ 8) (hJ : 0 ≤ J ∧ J ≤ 100) (hm : m ≤ 8)
    (h3 : Rd.str.C w (some ⟨n, 0, none⟩) (bG x).names) (h6 : rulRd.C w (some ⟨n + 1, 0, none⟩) (bG x).rules) (hO : Own (holdRd bc nodRd) 37 base w (.slice Aq (m + 1 + 1) kq) (chN s J m rk (m + 1))) :
    Calls Try.prog 7 #[.agg #[.int .i64 0, .slice (some ⟨n, 0, none⟩) 1 1, .slice (some ⟨n + 1, 0, none⟩) 1 1], .string y, .agg #[.int .i64 0, .slice Aq (m + 1 + 1) kq]] w (CheckPost w (bG x) y (chC s J m rk)) := by
  obtain ⟨A, k, e, l1, l2, hC⟩ := hO.shape
  injection e with e1 _ e3
  subst e1 e3
  have hlen : (chC s J m rk).nodes.length = m + 1 + 1 := chN_len (m + 1)
  have := check_any (w := w) (bG x) y (chC s J m rk) (A := some ⟨n, 0, none⟩) (A' := some ⟨n + 1, 0, none⟩) (An := Aq) (c := 1) (c' := 1) (cn := kq) (by omega) (Nat.le_refl 1) (by decide) h3 (Nat.le_refl 1) (by decide) h6 l1 l2 (holdRd.C hC) (ch_wf hJ.1 hJ.2 (by omega))
  rw [hlen] at this
  exact this
theorem ch_asked {x y : ByteArray} {s : Bool} {J : Int} {m : Nat} {rk : Nat → Int} (hx : x.size ≤ 8) (hy : y.size ≤ 8) (hm : m ≤ 8) : ¬ NotAsked (bG x) y (chC s J m rk) := asked_of (bG_may hx) (bG_edges x) (by omega) (by show (chN s J m rk (m + 1)).length ≤ 65536; rw [chN_len]; omega)
theorem in_post {w w' : World} {x y : ByteArray} {bs : Nat} {e : Ending} (h : CheckPost w (bG x) y (chC true x.size x.size (rkI bs x.size)) e w') (hx : x.size ≤ 8) (hy : y.size ≤ 8) (hbs : 1 ≤ bs) :
    ∃ (E : Bool) (eI : Int), e = .returned (.tuple #[.bool E, .int .i64 eI]) ∧ decide (x = y) = E ∧ decide (eI = 0) = E ∧ (eI == 0) = E ∧ Below w.heap.size w w' := by
  by_cases hxy : x = y
  · subst hxy
    obtain ⟨he, hb⟩ := check_yes h (ch_asked hx hy hx) (in_taken (fun i hi => by unfold rkI; omega) (fun i hi => by unfold rkI; omega))
    exact ⟨true, 0, he, by simp, by simp, by simp, hb⟩
  · obtain ⟨he, hb⟩ := check_no h (ch_asked hx hy hx) (in_not (bytes_ne hxy))
    exact ⟨false, 1901, he, by simp [hxy], by simp, by simp, hb⟩
theorem out_post {w w' : World} {x y : ByteArray} {m : Nat} {e : Ending} (h : CheckPost w (bG x) y (chC false y.size m (fun _ => 0)) e w') (hx : x.size ≤ 8) (hy : y.size ≤ 8) (h1 : m ≤ x.size) (h2 : m ≤ y.size) (h3 : ∀ i : Nat, i < m → btz x i = btz y i) (h4 : m < x.size → m < y.size → btz x m ≠ btz y m) :
    ∃ eI : Int, e = .returned (.tuple #[.bool false, .int .i64 eI]) ∧ decide (eI = 0) = !(decide (x = y)) ∧ (eI == 0) = !(decide (x = y)) ∧ Below w.heap.size w w' := by
  by_cases hxy : x = y
  · subst hxy
    have hm : m = x.size := by
      by_cases e : m < x.size
      · exact absurd rfl (h4 e e)
      · omega
    subst hm
    obtain ⟨he, hb⟩ := check_no h (ch_asked hx hy hx) (out_no rfl)
    exact ⟨1901, he, by simp, by simp, hb⟩
  · obtain ⟨he, hb⟩ := check_yes h (ch_asked hx hy (by omega)) (out_yes h1 h2 h3 h4 (fun ⟨a, b⟩ => hxy (bytes_ext (by omega) (fun i hi => h3 i (by omega)))))
    exact ⟨0, he, by simp [hxy], by simp [hxy], hb⟩
def objsZ (n b1 : Nat) (s : Bool) (J : Int) (rk : Nat → Int) : List Obj := [
  .cells #[.string ⟨#[83]⟩] 9 (0, 0),
  .cells #[.int .i64 0, .slice (some ⟨b1, 0, none⟩) 1 1] 29 (0, 0),
  .cells #[.int .i64 0, .slice (some ⟨n, 0, none⟩) 1 1, .slice (some ⟨n + 1, 0, none⟩) 1 1] 32 (0, 0),
  .cells #[.int .i64 1] 3 (0, 0),
  .cells #[.int .i64 0, .int .i64 0, .slice (some ⟨n + 3, 0, none⟩) 1 1] 51 (0, 0),
  .cells #[.bool s, .int .i64 0, .int .i64 0, .int .i64 0, .int .i64 0, .int .i64 0, .int .i64 0, .int .i64 J, .int .i64 (rk 0), .slice (some ⟨n + 4, 0, none⟩) 1 1] 37 (0, 0),
  .cells #[.int .i64 0, .slice (some ⟨n + 5, 0, none⟩) 1 1] 40 (0, 0)]
def CutX (s7 : Value) (w x : ByteArray) : Prop := s7 = .string x ∧ x.size ≤ 8
def Bl1 (w : World) (b1 : Nat) (x : ByteArray) (cnt : Value) (wr : World) : Prop := ∃ (i : Nat) (v : Value), cnt = .int .i64 i ∧ i ≤ x.size ∧ wr.heap[b1]? = some (.cells #[.bool false, v] 26 (0, 0)) ∧ wr.heap[b1 + 1]? = some (.cells #[.int .i64 0, .slice (some ⟨b1, 0, none⟩) 1 1] 29 (0, 0)) ∧ Own symRd 46 (b1 + 2) wr v (bSeq x i) ∧ Below w.heap.size w wr
theorem bl1_end {w w5 : World} {b1 : Nat} {x : ByteArray} {i : Nat} {v v5 : Value} (hw : w.heap.size ≤ b1) (q5 : w5.heap[b1]? = some (.cells #[.bool false, v] 26 (0, 0))) (q6 : w5.heap[b1 + 1]? = some (.cells #[.int .i64 0, .slice (some ⟨b1, 0, none⟩) 1 1] 29 (0, 0)))
    (o5 : Own symRd 46 (b1 + 2) w5 v5 (bSeq x i ++ [bSym x i])) (hb5 : Below w.heap.size w w5) (hlt : i < x.size) : Bl1 w b1 x (.int .i64 ((i : Int) + 1)) (w5.setCell ⟨b1, 1, none⟩ v5) := by
  have hz : Upd (fun b => b = b1) w5 (w5.setCell ⟨b1, 1, none⟩ v5) := (Upd.refl (fun b => b = b1) w5).setCell (p := ⟨b1, 1, none⟩) rfl _
  refine ⟨i + 1, v5, by go_num, hlt, blk_set q5 1 v5, (hz.block _ (blk_lt q6) (show ¬ (b1 + 1 = b1) by omega)).trans q6, ?_, below_setNew hb5 (by simp only; omega) _⟩
  rw [bSeq_succ]
  exact o5.upd hz (fun b (e : b = b1) => by omega)
theorem bl1_drew {w wr : World} {b1 : Nat} {x : ByteArray} {cnt : Value} (h : Bl1 w b1 x cnt wr) : Bl1 w b1 x cnt wr.drew := by
  obtain ⟨i, v, e, hi, h0, h1, hO, hb⟩ := h
  exact ⟨i, v, e, hi, h0, h1, hO.below (below_drew' (below_refl wr)), below_drew' hb⟩
set_option maxRecDepth 100000 in
set_option maxHeartbeats 16000000 in
theorem bytes_any (w : World) (sw sv : ByteArray) (rank : Int) (hw : sw.size < 140737488351233) (hv : sv.size < 140737488351233) : Calls Try.prog 4 #[.string sw, .string sv, .int .i64 rank] w fun e w' => e = .returned (.bool true) ∧ Below w.heap.size w w' := by
  go_enter Try.func4, Try.ntmps4
  go_upto_if 31 with (first | (go_at_call 6; refine (awake_any _).mono ?_; rintro e w1 ⟨rfl, hb1⟩; have HB1 := Lib.hid hb1; clear hb1) | fail)
  go_cut [7] (fun s7 wx => Below w.heap.size w wx ∧ ∃ x : ByteArray, s7 = .string x ∧ x.size ≤ 8)
  case first =>
    by_cases h8 : 8 < sw.size
    · have d : decide ((8 : Int) < (sw.size : Int)) = true := decide_eq_true (by omega)
      go_wp2_with fail
      go_meet
      exact ⟨HB1.out, _, rfl, by rw [ByteArray.size_extract]; omega⟩
    · have d : decide ((8 : Int) < (sw.size : Int)) = false := decide_eq_false (by omega)
      go_wp2_with fail
      go_meet
      exact ⟨HB1.out, _, rfl, by omega⟩
  case rest =>
    obtain ⟨hbc, x, rfl, hx8⟩ := hcut
    have HB1 := Lib.hid hbc
    clear hbc
    obtain ⟨w2, hw2⟩ : ∃ w2, w2 = wc := ⟨_, rfl⟩
    rw [← hw2] at HB1 ⊢
    clear hw2 wc
    go_upto_if 36 with fail
    go_cut [8] (fun s8 wx => Below w.heap.size w wx ∧ ∃ y : ByteArray, s8 = .string y ∧ y.size ≤ 8)
    case first =>
      by_cases h8 : 8 < sv.size
      · have d : decide ((8 : Int) < (sv.size : Int)) = true := decide_eq_true (by omega)
        go_wp2_with fail
        go_meet
        exact ⟨HB1.out, _, rfl, by rw [ByteArray.size_extract]; omega⟩
      · have d : decide ((8 : Int) < (sv.size : Int)) = false := decide_eq_false (by omega)
        go_wp2_with fail
        go_meet
        exact ⟨HB1.out, _, rfl, by omega⟩
    case rest =>
      obtain ⟨hbc, y, rfl, hy8⟩ := hcut
      clear HB1
      have HB1 := Lib.hid hbc
      clear hbc
      obtain ⟨w3, hw3⟩ : ∃ w3, w3 = wc := ⟨_, rfl⟩
      rw [← hw3] at HB1 ⊢
      clear hw3 wc
      go_wp2_with fail
      have h0 := heap_alloc2_old w3 (Obj.cells #[.bool false, .slice none 0 0] 26) (Obj.cells #[.int .i64 0, .slice (some ⟨w3.heap.size, 0, none⟩) 1 1] 29)
      have h1 := heap_alloc2_new w3 (Obj.cells #[.bool false, .slice none 0 0] 26) (Obj.cells #[.int .i64 0, .slice (some ⟨w3.heap.size, 0, none⟩) 1 1] 29)
      have hb3 : Below w3.heap.size w3 ((w3.alloc (Obj.cells #[.bool false, .slice none 0 0] 26)).alloc (Obj.cells #[.int .i64 0, .slice (some ⟨w3.heap.size, 0, none⟩) 1 1] 29)) := below_alloc' (below_alloc' (below_refl w3) _) _
      obtain ⟨b1, hb1⟩ : ∃ b1, b1 = w3.heap.size := ⟨_, rfl⟩
      rw [← hb1] at h0 h1 hb3 ⊢
      generalize (w3.alloc (Obj.cells #[.bool false, .slice none 0 0] 26)).alloc (Obj.cells #[.int .i64 0, .slice (some ⟨b1, 0, none⟩) 1 1] 29) = w4 at h0 h1 hb3 ⊢
      have HB4 := Lib.hid (below_trans HB1.out (by rw [← hb1]; exact hb3))
      have HC0 := Lib.hid h0
      have HC1 := Lib.hid h1
      have HW1 := Lib.hid (show w.heap.size ≤ b1 by rw [hb1]; exact HB1.out.size)
      clear HB1 h0 h1 hb3 hb1
      go_loopw [10] (fun cnt wr => Bl1 w b1 x cnt wr) (fun cnt _ => x.size - (intOf cnt).toNat)
      case atStart => exact ⟨0, _, rfl, Nat.zero_le _, HC0.out, HC1.out, Own.nil _ _ _ _, HB4.out⟩
      case round =>
        clear HC0 HC1 HB4
        obtain ⟨i, v, rfl, hi, h0, h1, hO, hb⟩ := hrel
        have HC0 := Lib.hid h0
        have HC1 := Lib.hid h1
        have HO := Lib.hid hO
        have HB := Lib.hid hb
        by_cases hlt : i < x.size
        · have hii : (i : Int) < (x.size : Int) := by omega
          obtain ⟨Av, kv, rfl, -, -, -⟩ := id hO.shape
          rw [bSeq_len] at h0 HC0 HO
          have c1 : wr.cell? ⟨b1, 1, none⟩ = some (.slice Av i kv) := blk_cell h0 1
          have c2 : wr.cell? ⟨b1 + 1, 1, none⟩ = some (.slice (some ⟨b1, 0, none⟩) 1 1) := blk_cell h1 1
          have l1 : b1 < wr.heap.size := blk_lt h0
          have l2 : b1 + 1 < wr.heap.size := blk_lt h1
          have HBV := Lib.hid (show IntKind.i64.wrap (((x[i]'hlt).toNat : Nat) : Int) = btz x i from by
            have h1 : (((x[i]'hlt).toNat : Nat) : Int) = btz x i := btz_at x i hlt
            have h2 := btz_range x i
            rw [h1]
            exact IntWalk.i64_in _ (by omega))
          have HL5 := Lib.hid (show (bSeq x i ++ [bSym x i]).length = i + 1 by simp [bSeq_len])
          clear h0 h1 hO hb
          go_upto_region 12 with fail
          have c20 : wr.cell? ⟨b1 + 1, 0, none⟩ = some (.int .i64 0) := blk_cell HC1.out 0
          have k1 : ∀ wz, Below wr.heap.size wr wz → wz.cell? ⟨b1 + 1, 1, none⟩ = some (.slice (some ⟨b1, 0, none⟩) 1 1) ∧ wz.cell? ⟨b1 + 1, 0, none⟩ = some (.int .i64 0) := fun wz hz => ⟨below_cell hz c2, below_cell hz c20⟩
          refine wp_region_held_drew (S := (fun w' => w'.cell? ⟨b1 + 1, 1, none⟩ = some (.slice (some ⟨b1, 0, none⟩) 1 1) ∧ w'.cell? ⟨b1 + 1, 0, none⟩ = some (.int .i64 0))) (by kernel_rfl) ?_ (fun hHeld => ?_)
          · (try dsimp only)
            (first | exact ⟨u6, u7⟩ | exact ⟨c2, c20⟩ | exact ⟨keep_set u6 (by simp only; omega), keep_set u7 (by simp only; omega)⟩ | (apply k1; repeat (first | exact below_refl _ | apply below_alloc' | apply below_drew')))
          refine wpAnyH_take (i := 0) (v := ?_) rfl (by kernel_rfl) (by kernel_rfl) (by kernel_rfl) (fun _ _ _ h => h) (Or.inl ⟨by rfl, ?_⟩) (by assumption) ?_
          rotate_left 1
          · (intro w hSw; (try dsimp only at hSw); (go_simp <;> with_reducible rfl))
          try simp only [Act.put, List.setIfInBounds_toArray, List.set_cons_zero, List.set_cons_succ]
          refine wpAnyH_take (i := 1) (v := ?_) rfl (by kernel_rfl) (by kernel_rfl) (by kernel_rfl) (fun _ _ _ h => h) (Or.inl ⟨by rfl, ?_⟩) (by assumption) ?_
          rotate_left 1
          · (intro w hSw; (try dsimp only at hSw); (go_simp <;> with_reducible rfl))
          try simp only [Act.put, List.setIfInBounds_toArray, List.set_cons_zero, List.set_cons_succ]
          refine wpAnyH_take (i := 2) (v := ?_) rfl (by kernel_rfl) (by kernel_rfl) (by kernel_rfl) (fun _ _ _ h => h) (Or.inl ⟨by rfl, ?_⟩) (by assumption) ?_
          rotate_left 1
          · (intro w hSw; (try dsimp only at hSw); (go_simp <;> with_reducible rfl))
          try simp only [Act.put, List.setIfInBounds_toArray, List.set_cons_zero, List.set_cons_succ]
          refine wpAnyH_take (i := 3) (v := ?_) rfl (by kernel_rfl) (by kernel_rfl) (by kernel_rfl) (fun _ _ _ h => h) (Or.inl ⟨by rfl, ?_⟩) (by assumption) ?_
          rotate_left 1
          · (intro w hSw; (try dsimp only at hSw); (go_simp <;> with_reducible rfl))
          try simp only [Act.put, List.setIfInBounds_toArray, List.set_cons_zero, List.set_cons_succ]
          refine wpAnyH_take (i := 4) (v := ?_) rfl (by kernel_rfl) (by kernel_rfl) (by kernel_rfl) (fun _ _ _ h => h) (Or.inl ⟨by rfl, ?_⟩) (by assumption) ?_
          rotate_left 1
          · (intro w hSw; (try dsimp only at hSw); (go_simp <;> with_reducible rfl))
          try simp only [Act.put, List.setIfInBounds_toArray, List.set_cons_zero, List.set_cons_succ]
          refine wpAnyH_take (i := 5) (v := ?_) rfl (by kernel_rfl) (by kernel_rfl) (by kernel_rfl) (fun _ _ _ h => h) (Or.inl ⟨by rfl, ?_⟩) (by assumption) ?_
          rotate_left 1
          · (intro w hSw; (try dsimp only at hSw); (go_simp <;> with_reducible rfl))
          try simp only [Act.put, List.setIfInBounds_toArray, List.set_cons_zero, List.set_cons_succ]
          refine wpAnyH_take (i := 7) (v := ?_) rfl (by kernel_rfl) (by kernel_rfl) (by kernel_rfl) (fun _ _ _ h => h) (Or.inl ⟨by rfl, ?_⟩) (by assumption) ?_
          rotate_left 1
          · (intro w hSw; (try dsimp only at hSw); (go_simp <;> with_reducible rfl))
          try simp only [Act.put, List.setIfInBounds_toArray, List.set_cons_zero, List.set_cons_succ]
          refine wpAnyH_take (i := 8) (v := ?_) rfl (by kernel_rfl) (by kernel_rfl) (by kernel_rfl) (fun _ _ _ h => h) (Or.inl ⟨by rfl, ?_⟩) (by assumption) ?_
          rotate_left 1
          · (intro w hSw; (try dsimp only at hSw); (go_simp <;> with_reducible rfl))
          try simp only [Act.put, List.setIfInBounds_toArray, List.set_cons_zero, List.set_cons_succ]
          refine wpAnyH_take (i := 9) (v := ?_) rfl (by kernel_rfl) (by kernel_rfl) (by kernel_rfl) (fun _ _ _ h => h) (Or.inl ⟨by rfl, ?_⟩) (by assumption) ?_
          rotate_left 1
          · (intro w hSw; (try dsimp only at hSw); (go_simp <;> with_reducible rfl))
          try simp only [Act.put, List.setIfInBounds_toArray, List.set_cons_zero, List.set_cons_succ]
          refine wpAnyH_take (i := 10) (v := ?_) rfl (by kernel_rfl) (by kernel_rfl) (by kernel_rfl) (fun _ _ _ h => h) (Or.inl ⟨by rfl, ?_⟩) (by assumption) ?_
          rotate_left 1
          · (intro w hSw; (try dsimp only at hSw); (go_simp <;> with_reducible rfl))
          try simp only [Act.put, List.setIfInBounds_toArray, List.set_cons_zero, List.set_cons_succ]
          refine wpAnyH_take (i := 11) (v := ?_) rfl (by kernel_rfl) (by kernel_rfl) (by kernel_rfl) (fun _ _ _ h => h) (Or.inl ⟨by rfl, ?_⟩) (by assumption) ?_
          rotate_left 1
          · (intro w hSw; (try dsimp only at hSw); (go_simp <;> with_reducible rfl))
          try simp only [Act.put, List.setIfInBounds_toArray, List.set_cons_zero, List.set_cons_succ]
          refine wpAnyH_take (i := 12) (v := ?_) rfl (by kernel_rfl) (by kernel_rfl) (by kernel_rfl) (fun _ _ _ h => h) (Or.inl ⟨by rfl, ?_⟩) (by assumption) ?_
          rotate_left 1
          · (intro w hSw; (try dsimp only at hSw); (go_simp <;> with_reducible rfl))
          try simp only [Act.put, List.setIfInBounds_toArray, List.set_cons_zero, List.set_cons_succ]
          refine wpAnyH_take (i := 13) (v := ?_) rfl (by kernel_rfl) (by kernel_rfl) (by kernel_rfl) (fun _ _ _ h => h) (Or.inl ⟨by rfl, ?_⟩) (by assumption) ?_
          rotate_left 1
          · (intro w hSw; (try dsimp only at hSw); (go_simp <;> with_reducible rfl))
          try simp only [Act.put, List.setIfInBounds_toArray, List.set_cons_zero, List.set_cons_succ]
          refine wpAnyH_take (i := 14) (v := ?_) rfl (by kernel_rfl) (by kernel_rfl) (by kernel_rfl) (fun _ _ _ h => h) (Or.inl ⟨by rfl, ?_⟩) (by assumption) ?_
          rotate_left 1
          · (intro w hSw; (try dsimp only at hSw); (go_simp <;> with_reducible rfl))
          try simp only [Act.put, List.setIfInBounds_toArray, List.set_cons_zero, List.set_cons_succ]
          refine wpAnyH_take (i := 15) (v := ?_) rfl (by kernel_rfl) (by kernel_rfl) (by kernel_rfl) (fun _ _ _ h => h) (Or.inl ⟨by rfl, ?_⟩) (by assumption) ?_
          rotate_left 1
          · (intro w hSw; (try dsimp only at hSw); (go_simp <;> with_reducible rfl))
          try simp only [Act.put, List.setIfInBounds_toArray, List.set_cons_zero, List.set_cons_succ]
          refine wpAnyH_ready (rs := [6, 16]) (by kernel_rfl) (by simp) ?_
          refine AllReadyH.cons rfl (fun K hK => ?_) (AllReadyH.cons rfl (fun K hK => ?_) AllReadyH.nil)
          ·
            go_simp
            refine hK.out _ _ ?_ (fun hHeld => ?_)
            · (try dsimp only)
              (first | exact ⟨u6, u7⟩ | exact ⟨c2, c20⟩ | exact ⟨keep_set u6 (by simp only; omega), keep_set u7 (by simp only; omega)⟩ | (apply k1; repeat (first | exact below_refl _ | apply below_alloc' | apply below_drew')))
            clear hK K
            try simp only [Act.put, List.setIfInBounds_toArray, List.set_cons_zero, List.set_cons_succ]
            refine wpAnyH_ready (rs := [16]) (by kernel_rfl) (by simp) ?_
            refine AllReadyH.cons rfl (fun K hK => ?_) AllReadyH.nil
            go_simp
            refine hK.out _ _ ?_ (fun hHeld => ?_)
            · (try dsimp only)
              (first | exact ⟨u6, u7⟩ | exact ⟨c2, c20⟩ | exact ⟨keep_set u6 (by simp only; omega), keep_set u7 (by simp only; omega)⟩ | (apply k1; repeat (first | exact below_refl _ | apply below_alloc' | apply below_drew')))
            clear hK K
            try simp only [Act.put, List.setIfInBounds_toArray, List.set_cons_zero, List.set_cons_succ]
            refine wpAnyH_ready (rs := [17]) (by kernel_rfl) (by simp) ?_
            refine AllReadyH.cons rfl (fun K hK => ?_) AllReadyH.nil
            ((refine step_append_one (d := symRd) (base := b1 + 2) (by rfl) _ _ 24 46 _ 24 (by rfl) Try.underlying24 infoSym (by rfl) (by decide) (v := .slice Av i kv) (xs := bSeq x i) (by rfl) (HO.out.below (by repeat (first | exact below_refl _ | apply below_alloc' | apply below_drew'))) (bSym x i) #[.int .i64 (-1), .int .i64 (IntKind.i64.wrap (((x[i]'hlt).toNat : Nat) : Int)), .int .i64 (IntKind.i64.wrap (((x[i]'hlt).toNat : Nat) : Int))] (by intro wz _; rw [HBV.out]; exact symK wz (bSym x i)) (b := wr.heap.size) (c := 1) (by rfl) (heap_alloc_new wr _) (by rw [bSeq_len]; omega) (by decide) (by simp; omega) ?_); intro v5 w5 o5 g5 t5; obtain ⟨A5, k5, ev5, -, -, -⟩ := id o5.shape; rw [HL5.out] at ev5; subst ev5; have q5 := blk_grown (blk_below HC0.out (by repeat (first | exact below_refl _ | apply below_alloc' | apply below_drew'))) g5 (by intro e; have := (HO.out.base e.symm).1; omega); have q6 := blk_grown (blk_below HC1.out (by repeat (first | exact below_refl _ | apply below_alloc' | apply below_drew'))) g5 (by intro e; have := (HO.out.base e.symm).1; omega); have u5 : w5.cell? ⟨b1, 1, none⟩ = some (.slice Av i kv) := blk_cell q5 1; have f5 : w5.frozen? ⟨b1, 1, none⟩ = false := blk_frozen q5 1; have u6 : w5.cell? ⟨b1 + 1, 1, none⟩ = some (.slice (some ⟨b1, 0, none⟩) 1 1) := blk_cell q6 1; have u7 : w5.cell? ⟨b1 + 1, 0, none⟩ = some (.int .i64 0) := blk_cell q6 0; have Q5 := Lib.hid q5; have Q6 := Lib.hid q6; have O5 := Lib.hid o5; have HB5 := Lib.hid (show Below w.heap.size w w5 from below_grown (by repeat (first | exact HB.out | apply below_alloc' | apply below_drew')) g5 (fun b hb => by have := (HO.out.base hb).1; have := HW1.out; omega)); clear o5 g5 t5 q5 q6)
            refine hK.out _ _ ?_ (fun hHeld => ?_)
            · (try dsimp only)
              (first | exact ⟨u6, u7⟩ | exact ⟨c2, c20⟩ | exact ⟨keep_set u6 (by simp only; omega), keep_set u7 (by simp only; omega)⟩ | (apply k1; repeat (first | exact below_refl _ | apply below_alloc' | apply below_drew')))
            clear hK K
            try simp only [Act.put, List.setIfInBounds_toArray, List.set_cons_zero, List.set_cons_succ]
            refine wpAnyH_take (i := 18) (v := ?_) rfl (by kernel_rfl) (by kernel_rfl) (by kernel_rfl) (fun _ _ _ h => h) (Or.inl ⟨by rfl, ?_⟩) (by assumption) ?_
            rotate_left 1
            · (intro w hSw; (try dsimp only at hSw); (go_simp <;> with_reducible rfl))
            try simp only [Act.put, List.setIfInBounds_toArray, List.set_cons_zero, List.set_cons_succ]
            refine wpAnyH_take (i := 19) (v := ?_) rfl (by kernel_rfl) (by kernel_rfl) (by kernel_rfl) (fun _ _ _ h => h) (Or.inl ⟨by rfl, ?_⟩) (by assumption) ?_
            rotate_left 1
            · (intro w hSw; (try dsimp only at hSw); (go_simp <;> with_reducible rfl))
            try simp only [Act.put, List.setIfInBounds_toArray, List.set_cons_zero, List.set_cons_succ]
            refine wpAnyH_ready (rs := [20]) (by kernel_rfl) (by simp) ?_
            refine AllReadyH.cons rfl (fun K hK => ?_) AllReadyH.nil
            go_simp
            refine hK.out _ _ ?_ (fun hHeld => ?_)
            · (try dsimp only)
              (first | exact ⟨u6, u7⟩ | exact ⟨c2, c20⟩ | exact ⟨keep_set u6 (by simp only; omega), keep_set u7 (by simp only; omega)⟩ | (apply k1; repeat (first | exact below_refl _ | apply below_alloc' | apply below_drew')))
            clear hK K
            try simp only [Act.put, List.setIfInBounds_toArray, List.set_cons_zero, List.set_cons_succ]
            refine wpAnyH_done (by kernel_rfl) ?_ _
            go_wp2_with fail
            go_roundw
            case rel =>
              have hz := bl1_end HW1.out Q5.out Q6.out O5.out HB5.out hlt
              first
                | exact hz
                | exact bl1_drew hz
                | ((repeat apply Exists.intro); exact ⟨hz, rfl⟩)
                | ((repeat apply Exists.intro); exact ⟨bl1_drew hz, rfl⟩)
            case measure => simp [intOf]; omega
          ·
            go_simp
            refine hK.out _ _ ?_ (fun hHeld => ?_)
            · (try dsimp only)
              (first | exact ⟨u6, u7⟩ | exact ⟨c2, c20⟩ | exact ⟨keep_set u6 (by simp only; omega), keep_set u7 (by simp only; omega)⟩ | (apply k1; repeat (first | exact below_refl _ | apply below_alloc' | apply below_drew')))
            clear hK K
            try simp only [Act.put, List.setIfInBounds_toArray, List.set_cons_zero, List.set_cons_succ]
            refine wpAnyH_ready (rs := [6]) (by kernel_rfl) (by simp) ?_
            refine AllReadyH.cons rfl (fun K hK => ?_) AllReadyH.nil
            go_simp
            refine hK.out _ _ ?_ (fun hHeld => ?_)
            · (try dsimp only)
              (first | exact ⟨u6, u7⟩ | exact ⟨c2, c20⟩ | exact ⟨keep_set u6 (by simp only; omega), keep_set u7 (by simp only; omega)⟩ | (apply k1; repeat (first | exact below_refl _ | apply below_alloc' | apply below_drew')))
            clear hK K
            try simp only [Act.put, List.setIfInBounds_toArray, List.set_cons_zero, List.set_cons_succ]
            refine wpAnyH_ready (rs := [17]) (by kernel_rfl) (by simp) ?_
            refine AllReadyH.cons rfl (fun K hK => ?_) AllReadyH.nil
            ((refine step_append_one (d := symRd) (base := b1 + 2) (by rfl) _ _ 24 46 _ 24 (by rfl) Try.underlying24 infoSym (by rfl) (by decide) (v := .slice Av i kv) (xs := bSeq x i) (by rfl) (HO.out.below (by repeat (first | exact below_refl _ | apply below_alloc' | apply below_drew'))) (bSym x i) #[.int .i64 (-1), .int .i64 (IntKind.i64.wrap (((x[i]'hlt).toNat : Nat) : Int)), .int .i64 (IntKind.i64.wrap (((x[i]'hlt).toNat : Nat) : Int))] (by intro wz _; rw [HBV.out]; exact symK wz (bSym x i)) (b := wr.heap.size) (c := 1) (by rfl) (heap_alloc_new wr _) (by rw [bSeq_len]; omega) (by decide) (by simp; omega) ?_); intro v5 w5 o5 g5 t5; obtain ⟨A5, k5, ev5, -, -, -⟩ := id o5.shape; rw [HL5.out] at ev5; subst ev5; have q5 := blk_grown (blk_below HC0.out (by repeat (first | exact below_refl _ | apply below_alloc' | apply below_drew'))) g5 (by intro e; have := (HO.out.base e.symm).1; omega); have q6 := blk_grown (blk_below HC1.out (by repeat (first | exact below_refl _ | apply below_alloc' | apply below_drew'))) g5 (by intro e; have := (HO.out.base e.symm).1; omega); have u5 : w5.cell? ⟨b1, 1, none⟩ = some (.slice Av i kv) := blk_cell q5 1; have f5 : w5.frozen? ⟨b1, 1, none⟩ = false := blk_frozen q5 1; have u6 : w5.cell? ⟨b1 + 1, 1, none⟩ = some (.slice (some ⟨b1, 0, none⟩) 1 1) := blk_cell q6 1; have u7 : w5.cell? ⟨b1 + 1, 0, none⟩ = some (.int .i64 0) := blk_cell q6 0; have Q5 := Lib.hid q5; have Q6 := Lib.hid q6; have O5 := Lib.hid o5; have HB5 := Lib.hid (show Below w.heap.size w w5 from below_grown (by repeat (first | exact HB.out | apply below_alloc' | apply below_drew')) g5 (fun b hb => by have := (HO.out.base hb).1; have := HW1.out; omega)); clear o5 g5 t5 q5 q6)
            refine hK.out _ _ ?_ (fun hHeld => ?_)
            · (try dsimp only)
              (first | exact ⟨u6, u7⟩ | exact ⟨c2, c20⟩ | exact ⟨keep_set u6 (by simp only; omega), keep_set u7 (by simp only; omega)⟩ | (apply k1; repeat (first | exact below_refl _ | apply below_alloc' | apply below_drew')))
            clear hK K
            try simp only [Act.put, List.setIfInBounds_toArray, List.set_cons_zero, List.set_cons_succ]
            refine wpAnyH_take (i := 18) (v := ?_) rfl (by kernel_rfl) (by kernel_rfl) (by kernel_rfl) (fun _ _ _ h => h) (Or.inl ⟨by rfl, ?_⟩) (by assumption) ?_
            rotate_left 1
            · (intro w hSw; (try dsimp only at hSw); (go_simp <;> with_reducible rfl))
            try simp only [Act.put, List.setIfInBounds_toArray, List.set_cons_zero, List.set_cons_succ]
            refine wpAnyH_take (i := 19) (v := ?_) rfl (by kernel_rfl) (by kernel_rfl) (by kernel_rfl) (fun _ _ _ h => h) (Or.inl ⟨by rfl, ?_⟩) (by assumption) ?_
            rotate_left 1
            · (intro w hSw; (try dsimp only at hSw); (go_simp <;> with_reducible rfl))
            try simp only [Act.put, List.setIfInBounds_toArray, List.set_cons_zero, List.set_cons_succ]
            refine wpAnyH_ready (rs := [20]) (by kernel_rfl) (by simp) ?_
            refine AllReadyH.cons rfl (fun K hK => ?_) AllReadyH.nil
            go_simp
            refine hK.out _ _ ?_ (fun hHeld => ?_)
            · (try dsimp only)
              (first | exact ⟨u6, u7⟩ | exact ⟨c2, c20⟩ | exact ⟨keep_set u6 (by simp only; omega), keep_set u7 (by simp only; omega)⟩ | (apply k1; repeat (first | exact below_refl _ | apply below_alloc' | apply below_drew')))
            clear hK K
            try simp only [Act.put, List.setIfInBounds_toArray, List.set_cons_zero, List.set_cons_succ]
            refine wpAnyH_done (by kernel_rfl) ?_ _
            go_wp2_with fail
            go_roundw
            case rel =>
              have hz := bl1_end HW1.out Q5.out Q6.out O5.out HB5.out hlt
              first
                | exact hz
                | exact bl1_drew hz
                | ((repeat apply Exists.intro); exact ⟨hz, rfl⟩)
                | ((repeat apply Exists.intro); exact ⟨bl1_drew hz, rfl⟩)
            case measure => simp [intOf]; omega
        · have hie : i = x.size := by omega
          have HCV := Lib.hid hO
          obtain ⟨Av, kv, rfl, hkv0, hkv1, hC⟩ := id hO.shape
          have HSC := Lib.hid hC
          have HKV := Lib.hid hkv1
          have HKL := Lib.hid (show (bSeq x x.size).length ≤ kv by rw [← hie]; exact hkv0)
          clear hkv0 hkv1
          have c0 : wr.cell? ⟨b1 + 1, 0, none⟩ = some (.int .i64 0) := blk_cell h1 0
          have c2 : wr.cell? ⟨b1 + 1, 1, none⟩ = some (.slice (some ⟨b1, 0, none⟩) 1 1) := blk_cell h1 1
          have l2 : b1 + 1 < wr.heap.size := blk_lt h1
          clear h0 h1 hO hb hC
          obtain ⟨bs, hbs, hbs1, hbs2⟩ : ∃ bs : Nat, wrap64 (1 + bits BinOp.and .i64 rank 1023) = (bs : Int) ∧ 1 ≤ bs ∧ bs ≤ 1024 := by
            have h := and_smallZ rank (m := 1023) (by omega)
            simp only [Int.cast_ofNat_Int] at h
            generalize bits BinOp.and .i64 rank 1023 = q at h ⊢
            obtain ⟨h0, h1⟩ := h
            refine ⟨1 + q.toNat, ?_, by omega, by omega⟩
            unfold wrap64
            omega
          have hrk0 : (bs : Int) + x.size + 1 = rkI bs x.size 0 := by unfold rkI; omega
          have HBS := Lib.hid hbs
          go_upto_region 18 with fail
          try rw [HBS.out]
          change Code.wp _ _ _ _ (allocs wr (objsZ wr.heap.size b1 true x.size (rkI bs x.size)))
          have HL := Lib.hid (show ∀ k o, (objsZ wr.heap.size b1 true x.size (rkI bs x.size))[k]? = some o → (allocs wr (objsZ wr.heap.size b1 true x.size (rkI bs x.size))).heap[wr.heap.size + k]? = some o from fun k o h => allocs_heap _ _ _ _ h)
          have hall : ∀ l, Below wr.heap.size wr (allocs wr l) := fun l => allocs_below _ (below_refl wr)
          obtain ⟨n, hn⟩ : ∃ n, n = wr.heap.size := ⟨_, rfl⟩
          have HN := Lib.hid hn
          rw [← hn] at HL l2 ⊢
          have hb5 := hall (objsZ n b1 true x.size (rkI bs x.size))
          clear hall
          generalize allocs wr (objsZ n b1 true x.size (rkI bs x.size)) = w5 at HL hb5 ⊢
          have HD0 := Lib.hid (blk_below HC0.out hb5)
          have HB55 := Lib.hid hb5
          have HE5 := Lib.hid (below_then HB.out hb5)
          have HR0 := Lib.hid hrk0
          clear c0 c2 hb5 hn HC0 HC1 HO HCV HB hbs hrk0
          generalize hq6 : n + 1 + 1 + 1 + 1 + 1 + 1 = bc
          have HQ6 := Lib.hid (show bc = n + 6 by omega)
          clear hq6
          have HRB := Lib.hid (show ∀ w', Below (n + 3) w5 w' → rulRd.C w' (some ⟨n + 1, 0, none⟩) (bG x).rules from fun w' hw' => C_blk [[.int .i64 0, .slice (some ⟨b1, 0, none⟩) 1 1]] ((hw'.block (n + 1) (by omega)).trans (HL.out 1 _ rfl)) rfl ⟨⟨rulRd_mk (x := bRul x x.size) (Nat.le_refl 1) (by decide) (C_blk [[.bool false, .slice Av (bSeq x x.size).length kv]] ((hw'.block b1 (by omega)).trans (by rw [← hie]; exact HD0.out)) rfl ⟨⟨conjRd_mk (x := ⟨false, bSeq x x.size⟩) HKL.out HKV.out (by rw [← hie]; exact HSC.out.mono (HB55.out.trans (hw'.mono (by have := HN.out; omega)))), rfl⟩, trivial⟩), rfl⟩, trivial⟩)
          have HNB := Lib.hid (show ∀ w', Below (n + 3) w5 w' → Rd.str.C w' (some ⟨n, 0, none⟩) (bG x).names from fun w' hw' => C_blk [[.string ⟨#[83]⟩]] ((hw'.block n (by omega)).trans (HL.out 0 _ rfl)) rfl ⟨⟨rfl, rfl⟩, trivial⟩)
          have HGB := Lib.hid (HL.out 2 _ rfl)
          have HOT := Lib.hid (show Own (holdRd bc nodRd) 37 (n + 3) w5 (.slice (some ⟨n + 5, 0, none⟩) 1 1) (chN true x.size x.size (rkI bs x.size) 0) from
            own_one (HL.out 5 _ rfl) rfl (by omega) (nod_hy1 (x := chTop true x.size (rkI bs x.size)) rfl (HL.out 3 _ rfl) (HL.out 4 _ rfl) (by rintro (h | h) <;> omega) (by rintro (h | h) <;> omega) (by have := HQ6.out; omega) (by have := HQ6.out; omega)))
          have HCT := Lib.hid (show w5.heap[bc]? = some (.cells #[.int .i64 0, .slice (some ⟨n + 5, 0, none⟩) 1 1] 40 (0, 0)) from by rw [HQ6.out]; exact HL.out 6 _ rfl)
          have HN5 := Lib.hid (show n + 3 ≤ w5.heap.size by have := blk_lt (HL.out 3 _ rfl); omega)
          clear HL HD0 HSC HB55
          clear hie
          go_loopw [15] (fun cnt wr => Bl2 w5 bc (n + 3) true x.size x.size (rkI bs x.size) cnt wr) (fun cnt _ => x.size + 1 - (intOf cnt).toNat)
          case atStart => exact ⟨0, _, rfl, Nat.zero_le _, HCT.out, HOT.out, Below.refl _ _⟩
          case round =>
            obtain ⟨q, vq, rfl, hq, hC, hO, hb⟩ := hrel
            obtain ⟨Aq, kq, rfl, -, -, -⟩ := id hO.shape
            rw [chN_len] at hC hO
            have HCq := Lib.hid hC
            have HOq := Lib.hid hO
            have HBq := Lib.hid hb
            have HQ7 := Lib.hid hq
            clear hC hO hb hq
            by_cases hlq : q ≤ x.size
            · have dq : decide ((q : Int) ≤ (x.size : Int)) = true := decide_eq_true (by omega)
              have HW3 := Lib.hid (show (n + 3) ≤ wr.heap.size from Nat.le_trans HN5.out HBq.out.size)
              have hrq : (bs : Int) + x.size - q = rkI bs x.size (q + 1) := by unfold rkI; omega
              go_upto_if 105 with fail
              have hz0 := heap_alloc_new wr (Obj.cells #[.bool true, .int .i64 1, .int .i64 0, .int .i64 0, .int .i64 0, .int .i64 (q : Int), .int .i64 (q : Int), .int .i64 (x.size : Int), .int .i64 (rkI bs x.size (q + 1)), .slice none 0 0] 37)
              have hba := below_alloc' (below_refl wr) (Obj.cells #[.bool true, .int .i64 1, .int .i64 0, .int .i64 0, .int .i64 0, .int .i64 (q : Int), .int .i64 (q : Int), .int .i64 (x.size : Int), .int .i64 (rkI bs x.size (q + 1)), .slice none 0 0] 37)
              obtain ⟨zb, hzb⟩ : ∃ zb, zb = wr.heap.size := ⟨_, rfl⟩
              have HZB := Lib.hid hzb
              rw [← hzb] at hz0 ⊢
              generalize wr.alloc (Obj.cells #[.bool true, .int .i64 1, .int .i64 0, .int .i64 0, .int .i64 0, .int .i64 (q : Int), .int .i64 (q : Int), .int .i64 (x.size : Int), .int .i64 (rkI bs x.size (q + 1)), .slice none 0 0] 37) = wz at hz0 hba ⊢
              have HZ0 := Lib.hid hz0
              have HBA := Lib.hid hba
              clear hz0 hba hzb
              have hlz : zb < wz.heap.size := blk_lt HZ0.out
              by_cases hlm : q < x.size
              · have dm : decide ((q : Int) < (x.size : Int)) = true := decide_eq_true (by omega)
                have p9 : wz.cell? ⟨zb, 9, none⟩ = some (.slice none 0 0) := blk_cell HZ0.out 9
                have f9 : wz.frozen? ⟨zb, 9, none⟩ = false := blk_frozen HZ0.out 9
                go_upto_region 23 with fail
                clear p9 f9
                have h_z9 : (wz.setCell ⟨zb, 9, none⟩ (.slice (some ⟨wz.heap.size + 1, 0, none⟩) 1 1)).heap[zb]? = some (.cells #[.bool true, .int .i64 1, .int .i64 0, .int .i64 0, .int .i64 0, .int .i64 (q : Int), .int .i64 (q : Int), .int .i64 (x.size : Int), .int .i64 (rkI bs x.size (q + 1)), .slice (some ⟨wz.heap.size + 1, 0, none⟩) 1 1] 37 (0, 0)) := blk_set HZ0.out 9 _
                have hb9 : Below wr.heap.size wr (wz.setCell ⟨zb, 9, none⟩ (.slice (some ⟨wz.heap.size + 1, 0, none⟩) 1 1)) := below_setNew HBA.out (by have := HZB.out; simp only; omega) _
                have hsz : (wz.setCell ⟨zb, 9, none⟩ (.slice (some ⟨wz.heap.size + 1, 0, none⟩) 1 1)).heap.size = wz.heap.size := by simp [World.setCell]
                obtain ⟨pk, hpk⟩ : ∃ pk, pk = wz.heap.size := ⟨_, rfl⟩
                have hpz : zb < pk := by rw [hpk]; exact hlz
                rw [← hpk] at h_z9 hb9 hsz ⊢
                generalize wz.setCell ⟨zb, 9, none⟩ (.slice (some ⟨pk + 1, 0, none⟩) 1 1) = wy at h_z9 hb9 hsz ⊢
                have hp0 := heap_alloc2_old wy (Obj.cells #[.int .i64 ((q : Int) + 2)] 3) (Obj.cells #[.int .i64 ((q : Int) + 1), .int .i64 0, .slice (some ⟨pk, 0, none⟩) 1 1] 51)
                have hp1 := heap_alloc2_new wy (Obj.cells #[.int .i64 ((q : Int) + 2)] 3) (Obj.cells #[.int .i64 ((q : Int) + 1), .int .i64 0, .slice (some ⟨pk, 0, none⟩) 1 1] 51)
                have hbz : Below wy.heap.size wy ((wy.alloc (Obj.cells #[.int .i64 ((q : Int) + 2)] 3)).alloc (Obj.cells #[.int .i64 ((q : Int) + 1), .int .i64 0, .slice (some ⟨pk, 0, none⟩) 1 1] 51)) := below_alloc' (below_alloc' (below_refl wy) _) _
                rw [hsz] at hp0 hp1
                generalize (wy.alloc (Obj.cells #[.int .i64 ((q : Int) + 2)] 3)).alloc (Obj.cells #[.int .i64 ((q : Int) + 1), .int .i64 0, .slice (some ⟨pk, 0, none⟩) 1 1] 51) = w6 at hp0 hp1 hbz ⊢
                have hb6 : Below wr.heap.size wr w6 := below_trans hb9 hbz
                have h_Z6 := blk_below h_z9 hbz
                have hbr := HZB.out
                have hbc := blk_lt HCq.out
                have h_C6 := blk_below HCq.out hb6
                have h_O6 := HOq.out.below hb6
                have h_B6 := HBq.out.trans (hb6.mono HW3.out)
                have h_L6 : (n + 3) ≤ w6.heap.size := Nat.le_trans HW3.out hb6.size
                have h_Y6 := nod_hy1 (S := fun b => b < (n + 3) ∨ (Value.slice Aq (q + 1) kq).ownBlock = some b) (bc := bc) (x := chSeq true (x.size : Int) x.size (rkI bs x.size) q) (by simp [chSeq, chPicks, hlm]) hp0 hp1 (by rintro (h | h); (have := HW3.out; omega); (have := (HOq.out.base h).2; omega)) (by rintro (h | h); (have := HW3.out; omega); (have := (HOq.out.base h).2; omega)) (by omega) (by omega)
                clear hp0 hp1 hb6 hbz h_z9 hb9 hsz hbr hbc hpk
                have C6 := Lib.hid h_C6
                have O6 := Lib.hid h_O6
                have B6 := Lib.hid h_B6
                have L6 := Lib.hid h_L6
                have HYF := Lib.hid h_Y6
                have a0 : w6.cell? ⟨zb, 0, none⟩ = some (.bool true) := blk_cell h_Z6 0
                have a1 : w6.cell? ⟨zb, 1, none⟩ = some (.int .i64 1) := blk_cell h_Z6 1
                have a2 : w6.cell? ⟨zb, 2, none⟩ = some (.int .i64 0) := blk_cell h_Z6 2
                have a3 : w6.cell? ⟨zb, 3, none⟩ = some (.int .i64 0) := blk_cell h_Z6 3
                have a4 : w6.cell? ⟨zb, 4, none⟩ = some (.int .i64 0) := blk_cell h_Z6 4
                have a5 : w6.cell? ⟨zb, 5, none⟩ = some (.int .i64 (q : Int)) := blk_cell h_Z6 5
                have a6 : w6.cell? ⟨zb, 6, none⟩ = some (.int .i64 (q : Int)) := blk_cell h_Z6 6
                have a7 : w6.cell? ⟨zb, 7, none⟩ = some (.int .i64 (x.size : Int)) := blk_cell h_Z6 7
                have a8 : w6.cell? ⟨zb, 8, none⟩ = some (.int .i64 (rkI bs x.size (q + 1))) := blk_cell h_Z6 8
                have a9 : w6.cell? ⟨zb, 9, none⟩ = some (.slice (some ⟨pk + 1, 0, none⟩) 1 1) := blk_cell h_Z6 9
                have c1 : w6.cell? ⟨bc, 1, none⟩ = some (.slice Aq (q + 1) kq) := blk_cell h_C6 1
                have lz6 : zb < w6.heap.size := blk_lt h_Z6
                have lc6 : bc < w6.heap.size := blk_lt h_C6
                have HL7 := Lib.hid (show (chN true (x.size : Int) x.size (rkI bs x.size) q ++ [chSeq true (x.size : Int) x.size (rkI bs x.size) q]).length = q + 1 + 1 by simp [chN_len])
                clear h_C6 h_O6 h_B6 h_L6 h_Y6 h_Z6
                go_wp2_with (first
                  | (at_builtin; refine wpList_append_one (d := holdRd bc nodRd) rfl (base := (n + 3)) (.tmp 115) (.tmp 117) 38 37 _ 96 (by rfl) Try.underlying38 infoNd (by rfl) (by show 0 < 10; decide) (v := .slice Aq (q + 1) kq) (xs := chN true (x.size : Int) x.size (rkI bs x.size) q) (by rfl) (O6.out.below (below_alloc' (below_refl _) _)) (chSeq true (x.size : Int) x.size (rkI bs x.size) q) #[.bool true, .int .i64 1, .int .i64 0, .int .i64 0, .int .i64 0, .int .i64 (q : Int), .int .i64 (q : Int), .int .i64 (x.size : Int), .int .i64 (rkI bs x.size (q + 1)), .slice (some ⟨pk + 1, 0, none⟩) 1 1] (fun w' hu => HYF.out w' ((Upd.of_below (below_alloc' (below_refl w6) _)).trans hu)) (b := w6.heap.size) (c := 1) (by rfl) (heap_alloc_new w6 _) (by rw [chN_len]; omega) (by decide) (by have := L6.out; simp; omega) ?_; intro v7 w7 o7 g7 t7; obtain ⟨A7, k7, ev7, -, -, -⟩ := id o7.shape; rw [HL7.out] at ev7; subst ev7; have q7 := blk_grown (blk_below C6.out (below_alloc' (below_refl w6) _)) g7 (fun e => own_ne_cert O6.out C6.out e.symm rfl); have u7 : w7.cell? ⟨bc, 1, none⟩ = some (.slice Aq (q + 1) kq) := blk_cell q7 1; have f7 : w7.frozen? ⟨bc, 1, none⟩ = false := blk_frozen q7 1; have O7 := Lib.hid o7; have G7 := Lib.hid g7; clear o7 g7 t7 q7)
                  | fail)
                go_roundw
                case rel =>
                  have hbl := bl_next C6.out (by have := HQ6.out; omega) O6.out O7.out G7.out B6.out (show q ≤ x.size from hlq)
                  first
                    | exact hbl
                    | ((repeat apply Exists.intro); exact ⟨hbl, rfl⟩)
                case measure => simp [intOf]; omega

              · have dm : decide ((q : Int) < (x.size : Int)) = false := decide_eq_false (by omega)
                obtain ⟨w6, hw6⟩ : ∃ w6, w6 = wz := ⟨_, rfl⟩
                rw [← hw6] at HZ0 HBA hlz ⊢
                clear hw6 wz
                have h_Z6 := HZ0.out
                have h_C6 := blk_below HCq.out HBA.out
                have h_O6 := HOq.out.below HBA.out
                have h_B6 := HBq.out.trans (HBA.out.mono HW3.out)
                have h_L6 : (n + 3) ≤ w6.heap.size := Nat.le_trans HW3.out HBA.out.size
                have h_Y6 := nod_hy0 (S := fun b => b < (n + 3) ∨ (Value.slice Aq (q + 1) kq).ownBlock = some b) (bc := bc) (w := w6) (x := chSeq true (x.size : Int) x.size (rkI bs x.size) q) (by simp [chSeq, chPicks, hlm])
                have C6 := Lib.hid h_C6
                have O6 := Lib.hid h_O6
                have B6 := Lib.hid h_B6
                have L6 := Lib.hid h_L6
                have HYF := Lib.hid h_Y6
                have a0 : w6.cell? ⟨zb, 0, none⟩ = some (.bool true) := blk_cell h_Z6 0
                have a1 : w6.cell? ⟨zb, 1, none⟩ = some (.int .i64 1) := blk_cell h_Z6 1
                have a2 : w6.cell? ⟨zb, 2, none⟩ = some (.int .i64 0) := blk_cell h_Z6 2
                have a3 : w6.cell? ⟨zb, 3, none⟩ = some (.int .i64 0) := blk_cell h_Z6 3
                have a4 : w6.cell? ⟨zb, 4, none⟩ = some (.int .i64 0) := blk_cell h_Z6 4
                have a5 : w6.cell? ⟨zb, 5, none⟩ = some (.int .i64 (q : Int)) := blk_cell h_Z6 5
                have a6 : w6.cell? ⟨zb, 6, none⟩ = some (.int .i64 (q : Int)) := blk_cell h_Z6 6
                have a7 : w6.cell? ⟨zb, 7, none⟩ = some (.int .i64 (x.size : Int)) := blk_cell h_Z6 7
                have a8 : w6.cell? ⟨zb, 8, none⟩ = some (.int .i64 (rkI bs x.size (q + 1))) := blk_cell h_Z6 8
                have a9 : w6.cell? ⟨zb, 9, none⟩ = some (.slice none 0 0) := blk_cell h_Z6 9
                have c1 : w6.cell? ⟨bc, 1, none⟩ = some (.slice Aq (q + 1) kq) := blk_cell h_C6 1
                have lz6 : zb < w6.heap.size := blk_lt h_Z6
                have lc6 : bc < w6.heap.size := blk_lt h_C6
                have HL7 := Lib.hid (show (chN true (x.size : Int) x.size (rkI bs x.size) q ++ [chSeq true (x.size : Int) x.size (rkI bs x.size) q]).length = q + 1 + 1 by simp [chN_len])
                clear h_C6 h_O6 h_B6 h_L6 h_Y6 h_Z6
                go_wp2_with (first
                  | (at_builtin; refine wpList_append_one (d := holdRd bc nodRd) rfl (base := (n + 3)) (.tmp 115) (.tmp 117) 38 37 _ 96 (by rfl) Try.underlying38 infoNd (by rfl) (by show 0 < 10; decide) (v := .slice Aq (q + 1) kq) (xs := chN true (x.size : Int) x.size (rkI bs x.size) q) (by rfl) (O6.out.below (below_alloc' (below_refl _) _)) (chSeq true (x.size : Int) x.size (rkI bs x.size) q) #[.bool true, .int .i64 1, .int .i64 0, .int .i64 0, .int .i64 0, .int .i64 (q : Int), .int .i64 (q : Int), .int .i64 (x.size : Int), .int .i64 (rkI bs x.size (q + 1)), .slice none 0 0] (fun w' hu => HYF.out w' ((Upd.of_below (below_alloc' (below_refl w6) _)).trans hu)) (b := w6.heap.size) (c := 1) (by rfl) (heap_alloc_new w6 _) (by rw [chN_len]; omega) (by decide) (by have := L6.out; simp; omega) ?_; intro v7 w7 o7 g7 t7; obtain ⟨A7, k7, ev7, -, -, -⟩ := id o7.shape; rw [HL7.out] at ev7; subst ev7; have q7 := blk_grown (blk_below C6.out (below_alloc' (below_refl w6) _)) g7 (fun e => own_ne_cert O6.out C6.out e.symm rfl); have u7 : w7.cell? ⟨bc, 1, none⟩ = some (.slice Aq (q + 1) kq) := blk_cell q7 1; have f7 : w7.frozen? ⟨bc, 1, none⟩ = false := blk_frozen q7 1; have O7 := Lib.hid o7; have G7 := Lib.hid g7; clear o7 g7 t7 q7)
                  | fail)
                go_roundw
                case rel =>
                  have hbl := bl_next C6.out (by have := HQ6.out; omega) O6.out O7.out G7.out B6.out (show q ≤ x.size from hlq)
                  first
                    | exact hbl
                    | ((repeat apply Exists.intro); exact ⟨hbl, rfl⟩)
                case measure => simp [intOf]; omega

            · have dq : decide ((q : Int) ≤ (x.size : Int)) = false := decide_eq_false (by omega)
              have hqe : q = x.size + 1 := by have := HQ7.out; omega
              subst hqe
              have hGr : wr.heap[n + 1 + 1]? = _ := (HBq.out.block (n + 2) (by omega)).trans HGB.out
              have g0 : wr.cell? ⟨n + 1 + 1, 0, none⟩ = some (.int .i64 0) := blk_cell hGr 0
              have g1 : wr.cell? ⟨n + 1 + 1, 1, none⟩ = some (.slice (some ⟨n, 0, none⟩) 1 1) := blk_cell hGr 1
              have g2 : wr.cell? ⟨n + 1 + 1, 2, none⟩ = some (.slice (some ⟨n + 1, 0, none⟩) 1 1) := blk_cell hGr 2
              have d0 : wr.cell? ⟨bc, 0, none⟩ = some (.int .i64 0) := blk_cell HCq.out 0
              have d1 : wr.cell? ⟨bc, 1, none⟩ = some (.slice Aq (x.size + 1 + 1) kq) := blk_cell HCq.out 1
              have CK := Lib.hid (chk_ch (w := wr) (x := x) (y := y) (s := true) (J := x.size) (m := x.size) (rk := rkI bs x.size) hx8 hy8 (by omega) hx8 (HNB.out wr HBq.out) (HRB.out wr HBq.out) HOq.out)
              clear hGr
              go_upto_block 4 with (first
                | (go_at_call 7; refine CK.out.mono ?_; rintro e w8 hck; obtain ⟨E, eI, rfl, hE0, hE1, hE2, hb8⟩ := in_post hck hx8 hy8 hbs1; have hle : (x.toList == y.toList) = E := (ba_beq x y).trans hE0; have HE0 := Lib.hid hE0; have HB8 := Lib.hid hb8; have HBR := Lib.hid HBq.out; clear hck hE0 hb8 g0 g1 g2 d0 d1 CK)
                | (go_at_call 8; refine (num_any _ _).mono ?_; rintro e wq ⟨rfl, hwq⟩; rw [hwq]; clear hwq)
                | fail)
              go_cut [19] (fun s19 wx => ∃ mm : Nat, s19 = .int .i64 mm ∧ mm ≤ x.size ∧ mm ≤ y.size ∧ (∀ i : Nat, i < mm → btz x i = btz y i) ∧ (mm < x.size → mm < y.size → btz x mm ≠ btz y mm) ∧ Below w8.heap.size w8 wx)
              case first =>
                go_wp2_with fail
                go_loopw [19] (fun cnt wi => Bl3 x y w8 cnt wi) (fun cnt _ => x.size - (intOf cnt).toNat)
                case atStart => exact ⟨0, rfl, Nat.zero_le _, Nat.zero_le _, fun i hi => by omega, below_refl _⟩
                case round =>
                  obtain ⟨a, rfl, ha1, ha2, ha3, hb⟩ := hrel
                  have HA3 := Lib.hid ha3
                  have HB := Lib.hid hb
                  clear ha3 hb
                  by_cases hax : a < x.size
                  · have d1 : decide ((a : Int) < (x.size : Int)) = true := decide_eq_true (by omega)
                    by_cases hay : a < y.size
                    · have d2 : decide ((a : Int) < (y.size : Int)) = true := decide_eq_true (by omega)
                      have hax' : (a : Int) < (x.size : Int) := by omega
                      have hay' : (a : Int) < (y.size : Int) := by omega
                      have ex : ((((x[a]'hax).toNat : Nat) : Int)) = btz x a := btz_at x a hax
                      have ey : ((((y[a]'hay).toNat : Nat) : Int)) = btz y a := btz_at y a hay
                      by_cases hxy : btz x a = btz y a
                      · have HXY := Lib.hid hxy
                        have e1 : (((((x[a]'hax).toNat : Nat) : Int)) == ((((y[a]'hay).toNat : Nat) : Int))) = true := by rw [ex, ey, hxy]; simp
                        have e2 : decide (((((x[a]'hax).toNat : Nat) : Int)) = ((((y[a]'hay).toNat : Nat) : Int))) = true := by rw [ex, ey, hxy]; simp
                        clear ex ey hxy
                        go_upto_region 28 with fail
                        refine wp_region_below (by kernel_rfl) (by kernel_rfl) ?_
                        repeat (first
                          | (refine qv_skip (by rfl) ?_; simp only [Act.put, List.setIfInBounds_toArray, List.set_cons_zero, List.set_cons_succ])
                          | (refine qv_val' (by rfl) ?_; apply Exists.intro; refine ⟨fun w5 hC => ?_, ?_⟩; (go_simp; rfl); simp only [Act.put, List.setIfInBounds_toArray, List.set_cons_zero, List.set_cons_succ]))
                        refine qv_nil ?_
                        intro w5 hC
                        have HB5 := Lib.hid (below_then HB.out hC)
                        clear hC
                        go_wp2_with fail
                        go_roundw
                        case rel => exact ⟨a + 1, by go_num, by omega, by omega, fun i hi => by
                          by_cases e : i = a
                          · subst e; exact HXY.out
                          · exact HA3.out i (by omega), HB5.out⟩
                        case measure => simp [intOf]; omega
                      · have HXY := Lib.hid hxy
                        have e1 : (((((x[a]'hax).toNat : Nat) : Int)) == ((((y[a]'hay).toNat : Nat) : Int))) = false := by rw [ex, ey]; simp [hxy]
                        have e2 : decide (((((x[a]'hax).toNat : Nat) : Int)) = ((((y[a]'hay).toNat : Nat) : Int))) = false := by rw [ex, ey]; simp [hxy]
                        clear ex ey hxy
                        go_upto_region 28 with fail
                        refine wp_region_below (by kernel_rfl) (by kernel_rfl) ?_
                        repeat (first
                          | (refine qv_skip (by rfl) ?_; simp only [Act.put, List.setIfInBounds_toArray, List.set_cons_zero, List.set_cons_succ])
                          | (refine qv_val' (by rfl) ?_; apply Exists.intro; refine ⟨fun w5 hC => ?_, ?_⟩; (go_simp; rfl); simp only [Act.put, List.setIfInBounds_toArray, List.set_cons_zero, List.set_cons_succ]))
                        refine qv_nil ?_
                        intro w5 hC
                        have HB5 := Lib.hid (below_then HB.out hC)
                        clear hC
                        go_wp2_with fail
                        go_meet
                        exact ⟨a, rfl, ha1, ha2, HA3.out, fun _ _ => HXY.out, HB5.out⟩
                    · have d2 : decide ((a : Int) < (y.size : Int)) = false := decide_eq_false (by omega)
                      go_upto_region 28 with fail
                      refine wp_region_below (by kernel_rfl) (by kernel_rfl) ?_
                      repeat (first
                        | (refine qv_skip (by rfl) ?_; simp only [Act.put, List.setIfInBounds_toArray, List.set_cons_zero, List.set_cons_succ])
                        | (refine qv_val' (by rfl) ?_; apply Exists.intro; refine ⟨fun w5 hC => ?_, ?_⟩; (go_simp; rfl); simp only [Act.put, List.setIfInBounds_toArray, List.set_cons_zero, List.set_cons_succ]))
                      refine qv_nil ?_
                      intro w5 hC
                      have HB5 := Lib.hid (below_then HB.out hC)
                      clear hC
                      go_wp2_with fail
                      go_meet
                      exact ⟨a, rfl, ha1, ha2, HA3.out, fun _ h => absurd h hay, HB5.out⟩
                  · have d1 : decide ((a : Int) < (x.size : Int)) = false := decide_eq_false (by omega)
                    go_upto_region 28 with fail
                    refine wp_region_below (by kernel_rfl) (by kernel_rfl) ?_
                    repeat (first
                      | (refine qv_skip (by rfl) ?_; simp only [Act.put, List.setIfInBounds_toArray, List.set_cons_zero, List.set_cons_succ])
                      | (refine qv_val' (by rfl) ?_; apply Exists.intro; refine ⟨fun w5 hC => ?_, ?_⟩; (go_simp; rfl); simp only [Act.put, List.setIfInBounds_toArray, List.set_cons_zero, List.set_cons_succ]))
                    refine qv_nil ?_
                    intro w5 hC
                    have HB5 := Lib.hid (below_then HB.out hC)
                    clear hC
                    go_wp2_with fail
                    go_meet
                    exact ⟨a, rfl, ha1, ha2, HA3.out, fun h _ => absurd h hax, HB5.out⟩
              case rest =>
                obtain ⟨mm, rfl, hm1, hm2, hm3, hm4, hb9⟩ := hcut
                have HB9 := Lib.hid (below_then HB8.out hb9)
                have HBG := Lib.hid (HBR.out.trans (HB9.out.mono (Nat.le_trans HN5.out HBR.out.size)))
                have HM3 := Lib.hid hm3
                have HM4 := Lib.hid hm4
                have hmm8 : mm ≤ 8 := by omega
                obtain ⟨w9, hw9⟩ : ∃ w9, w9 = wc := ⟨_, rfl⟩
                rw [← hw9] at HBG ⊢
                clear hb9 hm3 hm4 HB9 HB8 HBR HCq HOq HBq hw9 wc
                go_upto_region 32 with fail
                change Code.wp _ _ _ _ (allocs w9 (objsY w9.heap.size false y.size (fun _ => 0)))
                have HL := Lib.hid (show ∀ k o, (objsY w9.heap.size false y.size (fun _ => 0))[k]? = some o → (allocs w9 (objsY w9.heap.size false y.size (fun _ => 0))).heap[w9.heap.size + k]? = some o from fun k o h => allocs_heap _ _ _ _ h)
                have hall : ∀ l, Below w9.heap.size w9 (allocs w9 l) := fun l => allocs_below _ (below_refl w9)
                obtain ⟨m2, hm2e⟩ : ∃ m2, m2 = w9.heap.size := ⟨_, rfl⟩
                have HN9 := Lib.hid (show n + 3 ≤ m2 by rw [hm2e]; exact Nat.le_trans HN5.out HBG.out.size)
                have HM2 := Lib.hid hm2e
                rw [← hm2e] at HL ⊢
                have hb10 := hall (objsY m2 false y.size (fun _ => 0))
                clear hall HN5
                generalize allocs w9 (objsY m2 false y.size (fun _ => 0)) = w10 at HL hb10 ⊢
                have HBH := Lib.hid (HBG.out.trans (hb10.mono (by have := HN9.out; omega)))
                clear hb10 hm2e HBG
                generalize hq8 : m2 + 1 + 1 + 1 = bd
                have HQ8 := Lib.hid (show bd = m2 + 3 by omega)
                clear hq8
                have HOT := Lib.hid (show Own (holdRd bd nodRd) 37 m2 w10 (.slice (some ⟨m2 + 2, 0, none⟩) 1 1) (chN false y.size mm (fun _ => 0) 0) from
                  own_one (HL.out 2 _ rfl) rfl (by omega) (nod_hy1 (x := chTop false y.size (fun _ => 0)) rfl (HL.out 0 _ rfl) (HL.out 1 _ rfl) (by rintro (h | h) <;> omega) (by rintro (h | h) <;> omega) (by have := HQ8.out; omega) (by have := HQ8.out; omega)))
                have HCT := Lib.hid (show w10.heap[bd]? = some (.cells #[.int .i64 0, .slice (some ⟨m2 + 2, 0, none⟩) 1 1] 40 (0, 0)) from by rw [HQ8.out]; exact HL.out 3 _ rfl)
                have HN5 := Lib.hid (show m2 ≤ w10.heap.size by have := blk_lt (HL.out 0 _ rfl); omega)
                clear HL
                go_loopw [21] (fun cnt wr => Bl2 w10 bd m2 false y.size mm (fun _ => 0) cnt wr) (fun cnt _ => mm + 1 - (intOf cnt).toNat)
                case atStart => exact ⟨0, _, rfl, Nat.zero_le _, HCT.out, HOT.out, Below.refl _ _⟩
                case round =>
                  obtain ⟨q, vq, rfl, hq, hC, hO, hb⟩ := hrel
                  obtain ⟨Aq, kq, rfl, -, -, -⟩ := id hO.shape
                  rw [chN_len] at hC hO
                  have HCq := Lib.hid hC
                  have HOq := Lib.hid hO
                  have HBq := Lib.hid hb
                  have HQ7 := Lib.hid hq
                  clear hC hO hb hq
                  by_cases hlq : q ≤ mm
                  · have dq : decide ((q : Int) ≤ (mm : Int)) = true := decide_eq_true (by omega)
                    have HW3 := Lib.hid (show m2 ≤ wr.heap.size from Nat.le_trans HN5.out HBq.out.size)
                    skip
                    go_upto_if 183 with fail
                    have hz0 := heap_alloc_new wr (Obj.cells #[.bool false, .int .i64 1, .int .i64 0, .int .i64 0, .int .i64 0, .int .i64 (q : Int), .int .i64 (q : Int), .int .i64 (y.size : Int), .int .i64 (0), .slice none 0 0] 37)
                    have hba := below_alloc' (below_refl wr) (Obj.cells #[.bool false, .int .i64 1, .int .i64 0, .int .i64 0, .int .i64 0, .int .i64 (q : Int), .int .i64 (q : Int), .int .i64 (y.size : Int), .int .i64 (0), .slice none 0 0] 37)
                    obtain ⟨zb, hzb⟩ : ∃ zb, zb = wr.heap.size := ⟨_, rfl⟩
                    have HZB := Lib.hid hzb
                    rw [← hzb] at hz0 ⊢
                    generalize wr.alloc (Obj.cells #[.bool false, .int .i64 1, .int .i64 0, .int .i64 0, .int .i64 0, .int .i64 (q : Int), .int .i64 (q : Int), .int .i64 (y.size : Int), .int .i64 (0), .slice none 0 0] 37) = wz at hz0 hba ⊢
                    have HZ0 := Lib.hid hz0
                    have HBA := Lib.hid hba
                    clear hz0 hba hzb
                    have hlz : zb < wz.heap.size := blk_lt HZ0.out
                    by_cases hlm : q < mm
                    · have dm : decide ((q : Int) < (mm : Int)) = true := decide_eq_true (by omega)
                      have p9 : wz.cell? ⟨zb, 9, none⟩ = some (.slice none 0 0) := blk_cell HZ0.out 9
                      have f9 : wz.frozen? ⟨zb, 9, none⟩ = false := blk_frozen HZ0.out 9
                      go_upto_region 37 with fail
                      clear p9 f9
                      have h_z9 : (wz.setCell ⟨zb, 9, none⟩ (.slice (some ⟨wz.heap.size + 1, 0, none⟩) 1 1)).heap[zb]? = some (.cells #[.bool false, .int .i64 1, .int .i64 0, .int .i64 0, .int .i64 0, .int .i64 (q : Int), .int .i64 (q : Int), .int .i64 (y.size : Int), .int .i64 (0), .slice (some ⟨wz.heap.size + 1, 0, none⟩) 1 1] 37 (0, 0)) := blk_set HZ0.out 9 _
                      have hb9 : Below wr.heap.size wr (wz.setCell ⟨zb, 9, none⟩ (.slice (some ⟨wz.heap.size + 1, 0, none⟩) 1 1)) := below_setNew HBA.out (by have := HZB.out; simp only; omega) _
                      have hsz : (wz.setCell ⟨zb, 9, none⟩ (.slice (some ⟨wz.heap.size + 1, 0, none⟩) 1 1)).heap.size = wz.heap.size := by simp [World.setCell]
                      obtain ⟨pk, hpk⟩ : ∃ pk, pk = wz.heap.size := ⟨_, rfl⟩
                      have hpz : zb < pk := by rw [hpk]; exact hlz
                      rw [← hpk] at h_z9 hb9 hsz ⊢
                      generalize wz.setCell ⟨zb, 9, none⟩ (.slice (some ⟨pk + 1, 0, none⟩) 1 1) = wy at h_z9 hb9 hsz ⊢
                      have hp0 := heap_alloc2_old wy (Obj.cells #[.int .i64 ((q : Int) + 2)] 3) (Obj.cells #[.int .i64 ((q : Int) + 1), .int .i64 0, .slice (some ⟨pk, 0, none⟩) 1 1] 51)
                      have hp1 := heap_alloc2_new wy (Obj.cells #[.int .i64 ((q : Int) + 2)] 3) (Obj.cells #[.int .i64 ((q : Int) + 1), .int .i64 0, .slice (some ⟨pk, 0, none⟩) 1 1] 51)
                      have hbz : Below wy.heap.size wy ((wy.alloc (Obj.cells #[.int .i64 ((q : Int) + 2)] 3)).alloc (Obj.cells #[.int .i64 ((q : Int) + 1), .int .i64 0, .slice (some ⟨pk, 0, none⟩) 1 1] 51)) := below_alloc' (below_alloc' (below_refl wy) _) _
                      rw [hsz] at hp0 hp1
                      generalize (wy.alloc (Obj.cells #[.int .i64 ((q : Int) + 2)] 3)).alloc (Obj.cells #[.int .i64 ((q : Int) + 1), .int .i64 0, .slice (some ⟨pk, 0, none⟩) 1 1] 51) = w6 at hp0 hp1 hbz ⊢
                      have hb6 : Below wr.heap.size wr w6 := below_trans hb9 hbz
                      have h_Z6 := blk_below h_z9 hbz
                      have hbr := HZB.out
                      have hbc := blk_lt HCq.out
                      have h_C6 := blk_below HCq.out hb6
                      have h_O6 := HOq.out.below hb6
                      have h_B6 := HBq.out.trans (hb6.mono HW3.out)
                      have h_L6 : m2 ≤ w6.heap.size := Nat.le_trans HW3.out hb6.size
                      have h_Y6 := nod_hy1 (S := fun b => b < m2 ∨ (Value.slice Aq (q + 1) kq).ownBlock = some b) (bc := bd) (x := chSeq false (y.size : Int) mm (fun _ => 0) q) (by simp [chSeq, chPicks, hlm]) hp0 hp1 (by rintro (h | h); (have := HW3.out; omega); (have := (HOq.out.base h).2; omega)) (by rintro (h | h); (have := HW3.out; omega); (have := (HOq.out.base h).2; omega)) (by omega) (by omega)
                      clear hp0 hp1 hb6 hbz h_z9 hb9 hsz hbr hbc hpk
                      have C6 := Lib.hid h_C6
                      have O6 := Lib.hid h_O6
                      have B6 := Lib.hid h_B6
                      have L6 := Lib.hid h_L6
                      have HYF := Lib.hid h_Y6
                      have a0 : w6.cell? ⟨zb, 0, none⟩ = some (.bool false) := blk_cell h_Z6 0
                      have a1 : w6.cell? ⟨zb, 1, none⟩ = some (.int .i64 1) := blk_cell h_Z6 1
                      have a2 : w6.cell? ⟨zb, 2, none⟩ = some (.int .i64 0) := blk_cell h_Z6 2
                      have a3 : w6.cell? ⟨zb, 3, none⟩ = some (.int .i64 0) := blk_cell h_Z6 3
                      have a4 : w6.cell? ⟨zb, 4, none⟩ = some (.int .i64 0) := blk_cell h_Z6 4
                      have a5 : w6.cell? ⟨zb, 5, none⟩ = some (.int .i64 (q : Int)) := blk_cell h_Z6 5
                      have a6 : w6.cell? ⟨zb, 6, none⟩ = some (.int .i64 (q : Int)) := blk_cell h_Z6 6
                      have a7 : w6.cell? ⟨zb, 7, none⟩ = some (.int .i64 (y.size : Int)) := blk_cell h_Z6 7
                      have a8 : w6.cell? ⟨zb, 8, none⟩ = some (.int .i64 (0)) := blk_cell h_Z6 8
                      have a9 : w6.cell? ⟨zb, 9, none⟩ = some (.slice (some ⟨pk + 1, 0, none⟩) 1 1) := blk_cell h_Z6 9
                      have c1 : w6.cell? ⟨bd, 1, none⟩ = some (.slice Aq (q + 1) kq) := blk_cell h_C6 1
                      have lz6 : zb < w6.heap.size := blk_lt h_Z6
                      have lc6 : bd < w6.heap.size := blk_lt h_C6
                      have HL7 := Lib.hid (show (chN false (y.size : Int) mm (fun _ => 0) q ++ [chSeq false (y.size : Int) mm (fun _ => 0) q]).length = q + 1 + 1 by simp [chN_len])
                      clear h_C6 h_O6 h_B6 h_L6 h_Y6 h_Z6
                      go_wp2_with (first
                        | (at_builtin; refine wpList_append_one (d := holdRd bd nodRd) rfl (base := m2) (.tmp 193) (.tmp 195) 38 37 _ 96 (by rfl) Try.underlying38 infoNd (by rfl) (by show 0 < 10; decide) (v := .slice Aq (q + 1) kq) (xs := chN false (y.size : Int) mm (fun _ => 0) q) (by rfl) (O6.out.below (below_alloc' (below_refl _) _)) (chSeq false (y.size : Int) mm (fun _ => 0) q) #[.bool false, .int .i64 1, .int .i64 0, .int .i64 0, .int .i64 0, .int .i64 (q : Int), .int .i64 (q : Int), .int .i64 (y.size : Int), .int .i64 (0), .slice (some ⟨pk + 1, 0, none⟩) 1 1] (fun w' hu => HYF.out w' ((Upd.of_below (below_alloc' (below_refl w6) _)).trans hu)) (b := w6.heap.size) (c := 1) (by rfl) (heap_alloc_new w6 _) (by rw [chN_len]; omega) (by decide) (by have := L6.out; simp; omega) ?_; intro v7 w7 o7 g7 t7; obtain ⟨A7, k7, ev7, -, -, -⟩ := id o7.shape; rw [HL7.out] at ev7; subst ev7; have q7 := blk_grown (blk_below C6.out (below_alloc' (below_refl w6) _)) g7 (fun e => own_ne_cert O6.out C6.out e.symm rfl); have u7 : w7.cell? ⟨bd, 1, none⟩ = some (.slice Aq (q + 1) kq) := blk_cell q7 1; have f7 : w7.frozen? ⟨bd, 1, none⟩ = false := blk_frozen q7 1; have O7 := Lib.hid o7; have G7 := Lib.hid g7; clear o7 g7 t7 q7)
                        | fail)
                      go_roundw
                      case rel =>
                        have hbl := bl_next C6.out (by have := HQ8.out; omega) O6.out O7.out G7.out B6.out (show q ≤ mm from hlq)
                        first
                          | exact hbl
                          | ((repeat apply Exists.intro); exact ⟨hbl, rfl⟩)
                      case measure => simp [intOf]; omega

                    · have dm : decide ((q : Int) < (mm : Int)) = false := decide_eq_false (by omega)
                      obtain ⟨w6, hw6⟩ : ∃ w6, w6 = wz := ⟨_, rfl⟩
                      rw [← hw6] at HZ0 HBA hlz ⊢
                      clear hw6 wz
                      have h_Z6 := HZ0.out
                      have h_C6 := blk_below HCq.out HBA.out
                      have h_O6 := HOq.out.below HBA.out
                      have h_B6 := HBq.out.trans (HBA.out.mono HW3.out)
                      have h_L6 : m2 ≤ w6.heap.size := Nat.le_trans HW3.out HBA.out.size
                      have h_Y6 := nod_hy0 (S := fun b => b < m2 ∨ (Value.slice Aq (q + 1) kq).ownBlock = some b) (bc := bd) (w := w6) (x := chSeq false (y.size : Int) mm (fun _ => 0) q) (by simp [chSeq, chPicks, hlm])
                      have C6 := Lib.hid h_C6
                      have O6 := Lib.hid h_O6
                      have B6 := Lib.hid h_B6
                      have L6 := Lib.hid h_L6
                      have HYF := Lib.hid h_Y6
                      have a0 : w6.cell? ⟨zb, 0, none⟩ = some (.bool false) := blk_cell h_Z6 0
                      have a1 : w6.cell? ⟨zb, 1, none⟩ = some (.int .i64 1) := blk_cell h_Z6 1
                      have a2 : w6.cell? ⟨zb, 2, none⟩ = some (.int .i64 0) := blk_cell h_Z6 2
                      have a3 : w6.cell? ⟨zb, 3, none⟩ = some (.int .i64 0) := blk_cell h_Z6 3
                      have a4 : w6.cell? ⟨zb, 4, none⟩ = some (.int .i64 0) := blk_cell h_Z6 4
                      have a5 : w6.cell? ⟨zb, 5, none⟩ = some (.int .i64 (q : Int)) := blk_cell h_Z6 5
                      have a6 : w6.cell? ⟨zb, 6, none⟩ = some (.int .i64 (q : Int)) := blk_cell h_Z6 6
                      have a7 : w6.cell? ⟨zb, 7, none⟩ = some (.int .i64 (y.size : Int)) := blk_cell h_Z6 7
                      have a8 : w6.cell? ⟨zb, 8, none⟩ = some (.int .i64 (0)) := blk_cell h_Z6 8
                      have a9 : w6.cell? ⟨zb, 9, none⟩ = some (.slice none 0 0) := blk_cell h_Z6 9
                      have c1 : w6.cell? ⟨bd, 1, none⟩ = some (.slice Aq (q + 1) kq) := blk_cell h_C6 1
                      have lz6 : zb < w6.heap.size := blk_lt h_Z6
                      have lc6 : bd < w6.heap.size := blk_lt h_C6
                      have HL7 := Lib.hid (show (chN false (y.size : Int) mm (fun _ => 0) q ++ [chSeq false (y.size : Int) mm (fun _ => 0) q]).length = q + 1 + 1 by simp [chN_len])
                      clear h_C6 h_O6 h_B6 h_L6 h_Y6 h_Z6
                      go_wp2_with (first
                        | (at_builtin; refine wpList_append_one (d := holdRd bd nodRd) rfl (base := m2) (.tmp 193) (.tmp 195) 38 37 _ 96 (by rfl) Try.underlying38 infoNd (by rfl) (by show 0 < 10; decide) (v := .slice Aq (q + 1) kq) (xs := chN false (y.size : Int) mm (fun _ => 0) q) (by rfl) (O6.out.below (below_alloc' (below_refl _) _)) (chSeq false (y.size : Int) mm (fun _ => 0) q) #[.bool false, .int .i64 1, .int .i64 0, .int .i64 0, .int .i64 0, .int .i64 (q : Int), .int .i64 (q : Int), .int .i64 (y.size : Int), .int .i64 (0), .slice none 0 0] (fun w' hu => HYF.out w' ((Upd.of_below (below_alloc' (below_refl w6) _)).trans hu)) (b := w6.heap.size) (c := 1) (by rfl) (heap_alloc_new w6 _) (by rw [chN_len]; omega) (by decide) (by have := L6.out; simp; omega) ?_; intro v7 w7 o7 g7 t7; obtain ⟨A7, k7, ev7, -, -, -⟩ := id o7.shape; rw [HL7.out] at ev7; subst ev7; have q7 := blk_grown (blk_below C6.out (below_alloc' (below_refl w6) _)) g7 (fun e => own_ne_cert O6.out C6.out e.symm rfl); have u7 : w7.cell? ⟨bd, 1, none⟩ = some (.slice Aq (q + 1) kq) := blk_cell q7 1; have f7 : w7.frozen? ⟨bd, 1, none⟩ = false := blk_frozen q7 1; have O7 := Lib.hid o7; have G7 := Lib.hid g7; clear o7 g7 t7 q7)
                        | fail)
                      go_roundw
                      case rel =>
                        have hbl := bl_next C6.out (by have := HQ8.out; omega) O6.out O7.out G7.out B6.out (show q ≤ mm from hlq)
                        first
                          | exact hbl
                          | ((repeat apply Exists.intro); exact ⟨hbl, rfl⟩)
                      case measure => simp [intOf]; omega

                  · have dq : decide ((q : Int) ≤ (mm : Int)) = false := decide_eq_false (by omega)
                    have hqe : q = mm + 1 := by have := HQ7.out; omega
                    subst hqe
                    have hBW := HBH.out.trans (HBq.out.mono HN9.out)
                    have hGr : wr.heap[n + 1 + 1]? = _ := (hBW.block (n + 2) (by omega)).trans HGB.out
                    have g0 : wr.cell? ⟨n + 1 + 1, 0, none⟩ = some (.int .i64 0) := blk_cell hGr 0
                    have g1 : wr.cell? ⟨n + 1 + 1, 1, none⟩ = some (.slice (some ⟨n, 0, none⟩) 1 1) := blk_cell hGr 1
                    have g2 : wr.cell? ⟨n + 1 + 1, 2, none⟩ = some (.slice (some ⟨n + 1, 0, none⟩) 1 1) := blk_cell hGr 2
                    have d0 : wr.cell? ⟨bd, 0, none⟩ = some (.int .i64 0) := blk_cell HCq.out 0
                    have d1 : wr.cell? ⟨bd, 1, none⟩ = some (.slice Aq (mm + 1 + 1) kq) := blk_cell HCq.out 1
                    have CK := Lib.hid (chk_ch (w := wr) (x := x) (y := y) (s := false) (J := y.size) (m := mm) (rk := fun _ => 0) hx8 hy8 (by omega) hmm8 (HNB.out wr hBW) (HRB.out wr hBW) HOq.out)
                    have HBW := Lib.hid hBW
                    clear hGr hBW
                    go_wp2_with (first
                      | (go_at_call 7; refine CK.out.mono ?_; rintro e w11 hck; obtain ⟨eJ, rfl, hF1, hF2, hb11⟩ := out_post hck hx8 hy8 hm1 hm2 HM3.out HM4.out; rw [HE0.out] at hF1 hF2; have HB11 := Lib.hid hb11; clear hck hb11 g0 g1 g2 d0 d1 CK)
                      | (go_at_call 8; refine (num_any _ _).mono ?_; rintro e wq ⟨rfl, hwq⟩; rw [hwq]; clear hwq)
                      | fail)
                    go_ret
                    exact ⟨rfl, HE5.out.trans ((HBW.out.mono (by have := HW1.out; omega)).trans (HB11.out.mono (by have := HBW.out.size; have := HE5.out.size; omega)))⟩
end Go.Proofs.Ytfmfoiecphhhiaa
