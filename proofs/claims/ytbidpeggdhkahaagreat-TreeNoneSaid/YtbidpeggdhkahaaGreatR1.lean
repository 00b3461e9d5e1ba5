/-
  A3: small words on slices of the call's own, and the rows of types' sizes.
  R1: slices.Repeat of one number.
-/
import Derived.Test.YtbidpeggdhkahaaGreatA2
import Derived.Test.YtbidpeggdhkahaaGreatProg
import Derived.KernelRfl
import Derived.Deep.LoopGhost
import Derived.Deep.DeepCutAuto
import Derived.BigRegion
import Derived.Deep.RegionLaw
import Derived.Deep.RegionHeld3
import Derived.WalkLawsBesides
import Derived.ChangeAlike
import Derived.RegionTactic
import Derived.Lib.Hide
import Derived.BigQuiet
import Derived.Deep.QuietTactic
import Derived.Outline
import Derived.WalkSpells
import Derived.Laws.MakeOwn
import Derived.Test.YtbidpeggdhkahaaGreatE4
import Derived.Laws.CopyOwn
import Derived.Laws.Bits64b
set_option linter.unusedSimpArgs false
set_option linter.unusedVariables false
namespace Go.Proofs.YtbidpeggdhkahaaGreat
open Go.RowKit

theorem below_trans {w w1 w2 : World} (h : Below w.heap.size w w1) (k : Below w1.heap.size w1 w2) : Below w.heap.size w w2 := h.trans (k.mono h.size)
theorem infoStr : (Tryz.prog.info? 9).map (fun i => (i.zero, i.size, i.bytes)) = some (some (.string ⟨#[]⟩), 1, 16) := by kernel_rfl
theorem infoSym : (Tryz.prog.info? 83).map (fun i => (i.zero, i.size, i.bytes)) = some (some (.agg #[(.int .i64 0), (.int .i64 0), (.int .i64 0)]), 3, 24) := by kernel_rfl
theorem infoConj : (Tryz.prog.info? 50).map (fun i => (i.zero, i.size, i.bytes)) = some (some (.agg #[(.bool false), (.slice none 0 0)]), 2, 32) := by kernel_rfl
theorem infoRul : (Tryz.prog.info? 47).map (fun i => (i.zero, i.size, i.bytes)) = some (some (.agg #[(.int .i64 0), (.slice none 0 0)]), 2, 32) := by kernel_rfl
theorem infoInt : (Tryz.prog.info? 3).map (fun i => (i.zero, i.size, i.bytes)) = some (some (.int .i64 0), 1, 8) := by kernel_rfl
theorem take_snoc {α : Type} {l : List α} {k : Nat} {y : α} (h : l[k]? = some y) : l.take (k + 1) = l.take k ++ [y] := by
  have hk : k < l.length := (List.getElem?_eq_some_iff.1 h).1
  rw [List.take_succ_eq_append_getElem hk]
  rw [List.getElem?_eq_getElem hk] at h
  injection h with h
  rw [h]
theorem own_block_type {α : Type} {d : Rd α} {e : TypeId} {base : Nat} {w : World} {v : Value} {xs : List α} (h : Own d e base w v xs) {b : Nat} (hb : v.ownBlock = some b) : ∃ cur, w.heap[b]? = some (.cells cur e (0, 0)) := by
  obtain ⟨css, q1, q2, q3⟩ := h
  rcases q2.2 with ⟨rfl, _⟩ | ⟨g, cap, cur, rfl, _, hh, _⟩
  · simp [Value.ownBlock] at hb
  · simp [Value.ownBlock] at hb
    subst hb
    exact ⟨cur, hh⟩
theorem blk_type_ne {w : World} {g g' : Nat} {cs cs' : Array Value} {t t' : TypeId} (h : w.heap[g]? = some (.cells cs t (0, 0))) (h' : w.heap[g']? = some (.cells cs' t' (0, 0))) (hne : t ≠ t') : g ≠ g' := by
  rintro rfl
  rw [h] at h'
  injection h' with h'
  injection h' with _ h2
  exact hne h2
theorem own_type_ne {α β : Type} {d : Rd α} {d' : Rd β} {e e' : TypeId} {base base' : Nat} {w : World} {v v' : Value} {xs : List α} {ys : List β} (h : Own d e base w v xs) (h' : Own d' e' base' w v' ys) (hne : e ≠ e') {b : Nat} (hb : v.ownBlock = some b) : v'.ownBlock ≠ some b := by
  intro hb'
  obtain ⟨cur, hc⟩ := own_block_type h hb
  obtain ⟨cur', hc'⟩ := own_block_type h' hb'
  exact blk_type_ne hc hc' hne rfl
theorem Own.form {α : Type} {d : Rd α} {e : TypeId} {base : Nat} {w : World} {v : Value} {xs : List α} (h : Own d e base w v xs) (hx : 0 < xs.length) : ∃ g cap, v = .slice (some ⟨g, 0, none⟩) xs.length cap ∧ base ≤ g ∧ (∃ cur, w.heap[g]? = some (.cells cur e (0, 0))) ∧ xs.length ≤ cap ∧ cap ≤ 9223372036854775807 := by
  obtain ⟨css, q1, q2, q3⟩ := h
  rcases q2.2 with ⟨_, h0⟩ | ⟨g, cap, cur, rfl, hb, hh, h4, h5, _⟩
  · omega
  · exact ⟨g, cap, rfl, hb, ⟨cur, hh⟩, h4, by rw [← maxLen_eq]; exact h5⟩
theorem Own.one_at {α : Type} {enc : α → Value} {h1 : ∀ x, (enc x).oneCell' = true} {e : TypeId} {base : Nat} {w : World} {g n cap : Nat} {xs : List α} (h : Own (Rd.val enc h1) e base w (.slice (some ⟨g, 0, none⟩) n cap) xs) {i : Nat} {x : α} (hx : xs[i]? = some x) : w.cell? ⟨g, i, none⟩ = some (enc x) := by
  obtain ⟨A, c, e1, _, _, hC⟩ := h.shape
  injection e1 with e1 _ _
  subst e1
  obtain ⟨ad, e2, hc⟩ := hC.one hx
  injection e2 with e2
  subst e2
  rw [add_plain, Nat.zero_add] at hc
  exact hc
theorem own_empty {α : Type} {d : Rd α} {e : TypeId} {base b : Nat} {w : World} (h : w.heap[b]? = some (.cells #[] e (0, 0))) (hb : base ≤ b) : Own d e base w (.slice (some ⟨b, 0, none⟩) 0 0) [] :=
  ⟨[], rfl, ⟨by simp, .inr ⟨b, 0, #[], rfl, hb, h, Nat.le_refl _, by decide, by simp, by simp⟩⟩, fun i x cs h => by simp at h⟩
/-- A row of ranks, all 0. -/
def zRow (S : Nat) : Obj := .cells (madeCells #[.int .i64 0] S) 3 (0, 0)
theorem infoSl : (Tryz.prog.info? 84).map (fun i => (i.zero, i.size, i.bytes)) = some (some (.slice none 0 0), 1, 24) := by kernel_rfl
theorem mk_run (S : Nat) (h : S ≤ 1089) : ∀ w : World, (Instr.makeSlice 84 (.int .i64 (S : Int)) (.int .i64 (S : Int))).run Tryz.prog w = .ok (.slice (some ⟨w.heap.size, 0, none⟩) S S) (w.alloc (zRow S)) := by
  intro w
  obtain ⟨i0, hi, hz0, hz1, hz2⟩ := info_parts infoInt
  have h := run_make (P := Tryz.prog) w 84 3 i0 (.int .i64 0) Tryz.underlying84 hi hz0 .i64 .i64 (S : Int) (S : Int) (by omega) (by omega) (by rw [hz2]; omega) (by omega)
  rw [h, hz1]
  simp only [Int.toNat_natCast, Nat.mul_one, zRow]
  rfl
theorem sp_eq (n S : Nat) (hS : S = (n + 1) * (n + 1)) (h : S ≤ 1089) : wrap64 (((n : Int) + 1) * ((n : Int) + 1)) = (S : Int) ∧ IntKind.i64.wrap (((n : Int) + 1) * ((n : Int) + 1)) = (S : Int) := by
  have : (((n + 1) * (n + 1) : Nat) : Int) = ((n : Int) + 1) * ((n : Int) + 1) := by push_cast; rfl
  rw [← this, ← hS]
  exact ⟨by unfold wrap64; omega, IntWalk.i64_in _ (by omega)⟩
theorem sp_bd (n S : Nat) (hS : S = (n + 1) * (n + 1)) (hn : n ≤ 32) : 1 ≤ S ∧ S ≤ 1089 := by
  rw [hS]
  have h1 : (n + 1) * (n + 1) ≤ 33 * 33 := Nat.mul_le_mul (by omega) (by omega)
  have h2 := Nat.mul_pos (show 0 < n + 1 by omega) (show 0 < n + 1 by omega)
  omega
end Go.Proofs.YtbidpeggdhkahaaGreat

set_option linter.unusedSimpArgs false
set_option linter.unusedVariables false
namespace Go.Proofs.YtbidpeggdhkahaaGreat
open Go.RowKit

theorem and_mask {n : Nat} (h : n ≤ 64) : bits .and .u64 (n : Int) 4294967295 = (n : Int) := by
  have := bits_and_u64_nat n 4294967295 (by omega) (by omega)
  rw [show ((4294967295 : Nat) : Int) = 4294967295 from rfl] at this
  rw [this, show (4294967295 : Nat) = 2 ^ 32 - 1 from rfl, Nat.and_two_pow_sub_one_eq_mod, Nat.mod_eq_of_lt (by omega)]
theorem and_one_mask : bits .and .u64 1 4294967295 = 1 := by decide
theorem and_zero_mask : bits .and .u64 0 4294967295 = 0 := by decide

set_option maxHeartbeats 1000000 in
theorem mul64_one (n : Nat) (h : n ≤ 64) (w : World) : Calls Tryz.prog 142 #[.int .u64 1, .int .u64 n] w fun e w' => e = .returned (.tuple #[.int .u64 0, .int .u64 n]) ∧ w' = w := by
  have e1 := and_mask h
  have e2 := and_one_mask
  have e3 := and_zero_mask
  have d1 : (n : Int) / 4294967296 = 0 := by omega
  go_enter Tryz.func142, Tryz.ntmps142
  go_wp2
  go_ret2
  exact ⟨rfl, rfl⟩
theorem mul_one_any (n : Nat) (h : n ≤ 64) (w : World) : Calls Tryz.prog 135 #[.int .u64 1, .int .u64 n] w fun e w' => e = .returned (.tuple #[.int .u64 0, .int .u64 n]) ∧ w' = w := by
  have C := Lib.hid (mul64_one n h)
  go_enter Tryz.func135, Tryz.ntmps135
  go_wp2_with (go_at_call 142; refine (C.out _).mono ?_; rintro e w' ⟨rfl, hw⟩; obtain rfl := hw.symm)
  go_ret2
  exact ⟨rfl, rfl⟩

theorem ad_add0' (a : Addr) : a.add 0 = a := by unfold Addr.add; cases a with | mk b o e => cases e <;> simp
theorem zRow_new (w : World) (K : Nat) : (w.alloc (zRow K)).heap[w.heap.size]? = some (.cells (List.replicate K (Value.int .i64 0)).toArray 3 (0, 0)) := by
  rw [heap_alloc_new]
  unfold zRow
  rw [show madeCells #[.int .i64 0] K = (List.replicate K (Value.int .i64 0)).toArray from by apply Array.toList_inj.1; rw [toList_madeCells_one]]
theorem rep_src {w : World} {g K j : Nat} {v : Int} {u : Value} (hc : w.cell? ⟨g, 0, none⟩ = some (.int .i64 v)) (hj : [Value.int .i64 v][j]? = some u) : (w.alloc (zRow K)).cell? ((⟨g, 0, none⟩ : Addr).add j) = some u := by
  cases j with
  | zero =>
    simp at hj
    subst hj
    rw [ad_add0']
    exact below_cell (below_alloc' (below_refl w) _) hc
  | succ j => simp at hj
theorem rep_one {K : Nat} {v : Int} (h : 1 ≤ K) : [Value.int .i64 v].length = Nat.min 1 K := by simp only [List.length_cons, List.length_nil]; exact (Nat.min_eq_left h).symm
theorem rep_fit {K : Nat} {v : Int} (h : 1 ≤ K) : 0 + [Value.int .i64 v].length ≤ (List.replicate K (Value.int .i64 0)).length := by simp; omega
theorem rep_cell (v : Int) : ∀ x ∈ [Value.int .i64 v], x.oneCell' = true := by intro x hx; simp at hx; subst hx; rfl
/-- The row while it is filled: its first n cells hold v. -/
def RepRow (w : World) (g K n : Nat) (v : Int) (wr : World) : Prop := ∃ cur : List Value, wr.heap[g]? = some (.cells cur.toArray 3 (0, 0)) ∧ cur.length = K ∧ (∀ i, i < n → cur[i]? = some (.int .i64 v)) ∧ (∀ x ∈ cur, x.oneCell' = true) ∧ Below w.heap.size w wr
def RepRel (w : World) (g K : Nat) (v : Int) (cnt : Value) (wr : World) : Prop := ∃ n : Nat, cnt = .int .i64 n ∧ 1 ≤ n ∧ n ≤ K ∧ RepRow w g K n v wr
def RepPost (w : World) (K : Nat) (v : Int) (e : Ending) (w' : World) : Prop := e = .returned (.slice (some ⟨w.heap.size, 0, none⟩) K K) ∧ RepRow w w.heap.size K K v w'

theorem rep_dp {K n g : Nat} (h : n < K) : (if K = n then some (⟨g, 0, none⟩ : Addr) else some ⟨g, n, none⟩) = some ⟨g, n, none⟩ := if_neg (by omega)
theorem rep_cells (m : Nat) (v : Int) : ∀ x ∈ List.replicate m (Value.int .i64 v), x.oneCell' = true := by intro x hx; rw [List.mem_replicate] at hx; rw [hx.2]; rfl
theorem rep_src2 {w : World} {g n m j : Nat} {v : Int} {u : Value} {cur : List Value} {t : TypeId} (hg : w.heap[g]? = some (.cells cur.toArray t (0, 0))) (hv : ∀ i, i < n → cur[i]? = some (.int .i64 v)) (hm : m ≤ n) (hj : (List.replicate m (Value.int .i64 v))[j]? = some u) : w.cell? ((⟨g, 0, none⟩ : Addr).add j) = some u := by
  have hjm : j < m := by have := (List.getElem?_eq_some_iff.1 hj).1; simpa using this
  rw [List.getElem?_replicate, if_pos hjm] at hj
  rw [add_plain, Nat.zero_add, blk_cell hg j, ← hj]
  simpa using hv j (by omega)
theorem rep_start {w w3 : World} {K : Nat} {v : Int} (h1 : 1 ≤ K) (hg : w3.heap[w.heap.size]? = some (.cells (splice (List.replicate K (Value.int .i64 0)) 0 [.int .i64 v]).toArray 3 (0, 0))) (hb : Below w.heap.size w w3) : RepRow w w.heap.size K 1 v w3 := by
  refine ⟨_, hg, ?_, ?_, ?_, hb⟩
  · simp [splice]; omega
  · intro i hi
    obtain rfl : i = 0 := by omega
    simp [splice]
  · intro x hx
    simp [splice] at hx
    rcases hx with rfl | hx
    · rfl
    · rw [hx.2]; rfl
theorem rep_more {w w4 : World} {K n m : Nat} {v : Int} {cur : List Value} (hl : cur.length = K) (hv : ∀ i, i < n → cur[i]? = some (.int .i64 v)) (ho : ∀ x ∈ cur, x.oneCell' = true) (h3 : n + m ≤ K) (hg : w4.heap[w.heap.size]? = some (.cells (splice cur n (List.replicate m (.int .i64 v))).toArray 3 (0, 0))) (hb : Below w.heap.size w w4) : RepRow w w.heap.size K (n + m) v w4 := by
  refine ⟨_, hg, ?_, ?_, ?_, hb⟩
  · simp [splice]; omega
  · intro i hi
    unfold splice
    by_cases h : i < n
    · rw [List.getElem?_append_left (by simp; omega), List.getElem?_take, if_pos h]
      exact hv i h
    · rw [List.getElem?_append_right (by simp; omega), List.getElem?_append_left (by simp; omega)]
      rw [List.getElem?_replicate, if_pos (by simp; omega)]
  · intro x hx
    unfold splice at hx
    rcases List.mem_append.1 hx with hx | hx
    · exact ho x (List.mem_of_mem_take hx)
    · rcases List.mem_append.1 hx with hx | hx
      · exact rep_cells _ _ x hx
      · exact ho x (List.mem_of_mem_drop hx)

set_option maxRecDepth 100000 in
set_option maxHeartbeats 600000 in
theorem repeat_any {w : World} {K g c : Nat} {v : Int} (hK : K ≤ 64) (hK1 : 1 ≤ K) (hc : w.cell? ⟨g, 0, none⟩ = some (.int .i64 v)) :
    Calls Tryz.prog 122 #[.slice (some ⟨g, 0, none⟩) 1 c, .int .i64 K] w (RepPost w K v) := by
  have hmk := mk_run K (by omega)
  have CM := Lib.hid (mul_one_any K hK)
  have d1 : decide ((K : Int) < 0) = false := by simp
  go_enter Tryz.func122, Tryz.ntmps122
  have Z := Lib.hid (zRow_new w K)
  go_wp2_with (first | (go_at_call 135; refine (CM.out _).mono ?_; rintro e w' ⟨rfl, hw⟩; obtain rfl := hw.symm) | (with_reducible refine wpList_copy_splice rfl (.tmp 31) (.tmp 32) 84 84 rfl 3 Tryz.underlying84 (by kernel_rfl) _ _ K K 1 c rfl rfl w.heap.size 0 (List.replicate K (.int .i64 0)) 3 Z.out [.int .i64 v] (rep_one hK1) (fun _ => ⟨rfl, _, rfl, fun j u hj => rep_src hc hj⟩) (rep_fit hK1) (rep_cell v) w.heap.size w (below_alloc' (below_refl w) _) (Nat.le_refl _) ?_; intro w3 hg3 hb3))
  have HR3 : Hid (RepRow w w.heap.size K 1 v w3) := rep_start hK1 hg3.out hb3
  clear hg3 hb3 Z hw CM hmk
  go_loopw [8] (fun cnt wr => RepRel w w.heap.size K v cnt wr) (fun cnt _ => K - (intOf cnt).toNat)
  case atStart => exact ⟨1, rfl, Nat.le_refl _, hK1, HR3.out⟩
  case round =>
    clear HR3
    obtain ⟨n, rfl, hn1, hnK, hrow⟩ := hrel
    have HR := Lib.hid hrow
    clear hrow
    by_cases hlt : n < K
    · obtain ⟨cur, hg, hlen, hv, ho, hb⟩ := HR.out
      have HG := Lib.hid hg
      have HL := Lib.hid hlen
      have HV := Lib.hid hv
      have HO := Lib.hid ho
      have HB := Lib.hid hb
      clear hg hlen hv ho hb
      have hki : (n : Int) < K := by omega
      obtain ⟨m, hm⟩ : ∃ m, m = Nat.min n (K - n) := ⟨_, rfl⟩
      have hm1 : 1 ≤ m := by rw [hm]; exact Nat.le_min.2 ⟨hn1, by omega⟩
      have hm2 : m ≤ n := by rw [hm]; exact Nat.min_le_left _ _
      have hm3 : n + m ≤ K := by have : m ≤ K - n := by rw [hm]; exact Nat.min_le_right _ _
                                 omega
      have HM := Lib.hid hm
      have e46 : IntKind.i64.wrap ((n : Int) + (m : Int)) = ((n + m : Nat) : Int) := by rw [IntWalk.i64_in _ (by omega)]; omega
      have hKn : (K = n) = False := eq_false (by omega)
      clear hm
      go_wp2_with fail
      go_region_law
        (first | (refine step_copy_splice rfl (.tmp 41) (.tmp 44) 84 84 rfl 3 Tryz.underlying84 (by kernel_rfl) (some ⟨w.heap.size, n, none⟩) (some ⟨w.heap.size, 0, none⟩) (K - n) (K - n) n K (by kernel_rfl) (by kernel_rfl) w.heap.size n cur 3 HG.out (List.replicate m (.int .i64 v)) (by rw [List.length_replicate]; exact HM.out) (fun _ => ⟨rfl, _, rfl, fun j u hj => rep_src2 HG.out HV.out hm2 hj⟩) (by rw [List.length_replicate, HL.out]; exact hm3) (rep_cells m v) w.heap.size w HB.out.drew (Nat.le_refl _) ?_; intro w4 hg4 hb4))
      all_goals
        go_simp
        go_wp2_with fail
        go_roundw
        case rel => exact ⟨n + m, by go_num, by omega, hm3, rep_more HL.out HV.out HO.out hm3 hg4.out hb4⟩
        case measure => simp [intOf]; omega
    · have hne : n = K := by omega
      subst hne
      go_wp2
      go_ret
      exact ⟨rfl, HR.out⟩
end Go.Proofs.YtbidpeggdhkahaaGreat
