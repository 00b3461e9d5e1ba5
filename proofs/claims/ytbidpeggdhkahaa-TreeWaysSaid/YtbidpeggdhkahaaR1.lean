/-
  R1: slices.Repeat of one number.
-/
import Derived.Test.YtbidpeggdhkahaaE4
import Derived.Test.YtbidpeggdhkahaaA3
import Derived.Laws.CopyOwn
import Derived.Laws.Bits64b
set_option linter.unusedSimpArgs false
set_option linter.unusedVariables false
namespace Go.Proofs.Ytbidpeggdhkahaa
open Go.RowKit

theorem and_mask {n : Nat} (h : n ≤ 64) : bits .and .u64 (n : Int) 4294967295 = (n : Int) := by
  have := bits_and_u64_nat n 4294967295 (by omega) (by omega)
  rw [show ((4294967295 : Nat) : Int) = 4294967295 from rfl] at this
  rw [this, show (4294967295 : Nat) = 2 ^ 32 - 1 from rfl, Nat.and_two_pow_sub_one_eq_mod, Nat.mod_eq_of_lt (by omega)]
theorem and_one_mask : bits .and .u64 1 4294967295 = 1 := by decide
theorem and_zero_mask : bits .and .u64 0 4294967295 = 0 := by decide

set_option maxHeartbeats 1000000 in
theorem mul64_one (n : Nat) (h : n ≤ 64) (w : World) : Calls Try.prog 92 #[.int .u64 1, .int .u64 n] w fun e w' => e = .returned (.tuple #[.int .u64 0, .int .u64 n]) ∧ w' = w := by
  have e1 := and_mask h
  have e2 := and_one_mask
  have e3 := and_zero_mask
  have d1 : (n : Int) / 4294967296 = 0 := by omega
  go_enter Try.func92, Try.ntmps92
  go_wp2
  go_ret2
  exact ⟨rfl, rfl⟩
theorem mul_one_any (n : Nat) (h : n ≤ 64) (w : World) : Calls Try.prog 85 #[.int .u64 1, .int .u64 n] w fun e w' => e = .returned (.tuple #[.int .u64 0, .int .u64 n]) ∧ w' = w := by
  have C := Lib.hid (mul64_one n h)
  go_enter Try.func85, Try.ntmps85
  go_wp2_with (go_at_call 92; refine (C.out _).mono ?_; rintro e w' ⟨rfl, hw⟩; obtain rfl := hw.symm)
  go_ret2
  exact ⟨rfl, rfl⟩

theorem ad_add0' (a : Addr) : a.add 0 = a := by unfold Addr.add; cases a with | mk b o e => cases e <;> simp
theorem zRow_new (w : World) (K : Nat) : (w.alloc (zRow K)).heap[w.heap.size]? = some (.cells (List.replicate K (Value.int .i64 0)).toArray 3 (0, 0)) := by
  rw [heap_alloc_new]
  unfold zRow
  rw [show madeCells #[.int .i64 0] K = (List.replicate K (Value.int .i64 0)).toArray from by apply Array.toList_inj.1; rw [toList_madeCells_one]]
theorem rep_src {w : World} {g K j : Nat} {v : Int} {u : Value} (hc : w.cell? ⟨g, 0, none⟩ = some (.int .i64 v)) (hj : [Value.int .i64 v][j]? = some u) : (w.alloc (zRow K)).cell? ((⟨g, 0, none⟩ : Addr).add j) = some u := by
  cases j with
  | zero =>
    simp at hj
    subst hj
    rw [ad_add0']
    exact below_cell (below_alloc' (below_refl w) _) hc
  | succ j => simp at hj
theorem rep_one {K : Nat} {v : Int} (h : 1 ≤ K) : [Value.int .i64 v].length = Nat.min 1 K := by simp only [List.length_cons, List.length_nil]; exact (Nat.min_eq_left h).symm
theorem rep_fit {K : Nat} {v : Int} (h : 1 ≤ K) : 0 + [Value.int .i64 v].length ≤ (List.replicate K (Value.int .i64 0)).length := by simp; omega
theorem rep_cell (v : Int) : ∀ x ∈ [Value.int .i64 v], x.oneCell' = true := by intro x hx; simp at hx; subst hx; rfl
/-- The row while it is filled: its first n cells hold v. -/
def RepRow (w : World) (g K n : Nat) (v : Int) (wr : World) : Prop := ∃ cur : List Value, wr.heap[g]? = some (.cells cur.toArray 3 (0, 0)) ∧ cur.length = K ∧ (∀ i, i < n → cur[i]? = some (.int .i64 v)) ∧ (∀ x ∈ cur, x.oneCell' = true) ∧ Below w.heap.size w wr
def RepRel (w : World) (g K : Nat) (v : Int) (cnt : Value) (wr : World) : Prop := ∃ n : Nat, cnt = .int .i64 n ∧ 1 ≤ n ∧ n ≤ K ∧ RepRow w g K n v wr
def RepPost (w : World) (K : Nat) (v : Int) (e : Ending) (w' : World) : Prop := e = .returned (.slice (some ⟨w.heap.size, 0, none⟩) K K) ∧ RepRow w w.heap.size K K v w'

theorem rep_dp {K n g : Nat} (h : n < K) : (if K = n then some (⟨g, 0, none⟩ : Addr) else some ⟨g, n, none⟩) = some ⟨g, n, none⟩ := if_neg (by omega)
theorem rep_cells (m : Nat) (v : Int) : ∀ x ∈ List.replicate m (Value.int .i64 v), x.oneCell' = true := by intro x hx; rw [List.mem_replicate] at hx; rw [hx.2]; rfl
theorem rep_src2 {w : World} {g n m j : Nat} {v : Int} {u : Value} {cur : List Value} {t : TypeId} (hg : w.heap[g]? = some (.cells cur.toArray t (0, 0))) (hv : ∀ i, i < n → cur[i]? = some (.int .i64 v)) (hm : m ≤ n) (hj : (List.replicate m (Value.int .i64 v))[j]? = some u) : w.cell? ((⟨g, 0, none⟩ : Addr).add j) = some u := by
  have hjm : j < m := by have := (List.getElem?_eq_some_iff.1 hj).1; simpa using this
  rw [List.getElem?_replicate, if_pos hjm] at hj
  rw [add_plain, Nat.zero_add, blk_cell hg j, ← hj]
  simpa using hv j (by omega)
theorem rep_start {w w3 : World} {K : Nat} {v : Int} (h1 : 1 ≤ K) (hg : w3.heap[w.heap.size]? = some (.cells (splice (List.replicate K (Value.int .i64 0)) 0 [.int .i64 v]).toArray 3 (0, 0))) (hb : Below w.heap.size w w3) : RepRow w w.heap.size K 1 v w3 := by
  refine ⟨_, hg, ?_, ?_, ?_, hb⟩
  · simp [splice]; omega
  · intro i hi
    obtain rfl : i = 0 := by omega
    simp [splice]
  · intro x hx
    simp [splice] at hx
    rcases hx with rfl | hx
    · rfl
    · rw [hx.2]; rfl
theorem rep_more {w w4 : World} {K n m : Nat} {v : Int} {cur : List Value} (hl : cur.length = K) (hv : ∀ i, i < n → cur[i]? = some (.int .i64 v)) (ho : ∀ x ∈ cur, x.oneCell' = true) (h3 : n + m ≤ K) (hg : w4.heap[w.heap.size]? = some (.cells (splice cur n (List.replicate m (.int .i64 v))).toArray 3 (0, 0))) (hb : Below w.heap.size w w4) : RepRow w w.heap.size K (n + m) v w4 := by
  refine ⟨_, hg, ?_, ?_, ?_, hb⟩
  · simp [splice]; omega
  · intro i hi
    unfold splice
    by_cases h : i < n
    · rw [List.getElem?_append_left (by simp; omega), List.getElem?_take, if_pos h]
      exact hv i h
    · rw [List.getElem?_append_right (by simp; omega), List.getElem?_append_left (by simp; omega)]
      rw [List.getElem?_replicate, if_pos (by simp; omega)]
  · intro x hx
    unfold splice at hx
    rcases List.mem_append.1 hx with hx | hx
    · exact ho x (List.mem_of_mem_take hx)
    · rcases List.mem_append.1 hx with hx | hx
      · exact rep_cells _ _ x hx
      · exact ho x (List.mem_of_mem_drop hx)

set_option maxRecDepth 100000 in
set_option maxHeartbeats 600000 in
theorem repeat_any {w : World} {K g c : Nat} {v : Int} (hK : K ≤ 64) (hK1 : 1 ≤ K) (hc : w.cell? ⟨g, 0, none⟩ = some (.int .i64 v)) :
    Calls Try.prog 72 #[.slice (some ⟨g, 0, none⟩) 1 c, .int .i64 K] w (RepPost w K v) := by
  have hmk := mk_run K (by omega)
  have CM := Lib.hid (mul_one_any K hK)
  have d1 : decide ((K : Int) < 0) = false := by simp
  go_enter Try.func72, Try.ntmps72
  have Z := Lib.hid (zRow_new w K)
  go_wp2_with (first | (go_at_call 85; refine (CM.out _).mono ?_; rintro e w' ⟨rfl, hw⟩; obtain rfl := hw.symm) | (with_reducible refine wpList_copy_splice rfl (.tmp 31) (.tmp 32) 46 46 rfl 3 Try.underlying46 (by kernel_rfl) _ _ K K 1 c rfl rfl w.heap.size 0 (List.replicate K (.int .i64 0)) 3 Z.out [.int .i64 v] (rep_one hK1) (fun _ => ⟨rfl, _, rfl, fun j u hj => rep_src hc hj⟩) (rep_fit hK1) (rep_cell v) w.heap.size w (below_alloc' (below_refl w) _) (Nat.le_refl _) ?_; intro w3 hg3 hb3))
  have HR3 : Hid (RepRow w w.heap.size K 1 v w3) := rep_start hK1 hg3.out hb3
  clear hg3 hb3 Z hw CM hmk
  go_loopw [8] (fun cnt wr => RepRel w w.heap.size K v cnt wr) (fun cnt _ => K - (intOf cnt).toNat)
  case atStart => exact ⟨1, rfl, Nat.le_refl _, hK1, HR3.out⟩
  case round =>
    clear HR3
    obtain ⟨n, rfl, hn1, hnK, hrow⟩ := hrel
    have HR := Lib.hid hrow
    clear hrow
    by_cases hlt : n < K
    · obtain ⟨cur, hg, hlen, hv, ho, hb⟩ := HR.out
      have HG := Lib.hid hg
      have HL := Lib.hid hlen
      have HV := Lib.hid hv
      have HO := Lib.hid ho
      have HB := Lib.hid hb
      clear hg hlen hv ho hb
      have hki : (n : Int) < K := by omega
      obtain ⟨m, hm⟩ : ∃ m, m = Nat.min n (K - n) := ⟨_, rfl⟩
      have hm1 : 1 ≤ m := by rw [hm]; exact Nat.le_min.2 ⟨hn1, by omega⟩
      have hm2 : m ≤ n := by rw [hm]; exact Nat.min_le_left _ _
      have hm3 : n + m ≤ K := by have : m ≤ K - n := by rw [hm]; exact Nat.min_le_right _ _
                                 omega
      have HM := Lib.hid hm
      have e46 : IntKind.i64.wrap ((n : Int) + (m : Int)) = ((n + m : Nat) : Int) := by rw [IntWalk.i64_in _ (by omega)]; omega
      have hKn : (K = n) = False := eq_false (by omega)
      clear hm
      go_wp2_with fail
      go_region_law
        (first | (refine step_copy_splice rfl (.tmp 41) (.tmp 44) 46 46 rfl 3 Try.underlying46 (by kernel_rfl) (some ⟨w.heap.size, n, none⟩) (some ⟨w.heap.size, 0, none⟩) (K - n) (K - n) n K (by kernel_rfl) (by kernel_rfl) w.heap.size n cur 3 HG.out (List.replicate m (.int .i64 v)) (by rw [List.length_replicate]; exact HM.out) (fun _ => ⟨rfl, _, rfl, fun j u hj => rep_src2 HG.out HV.out hm2 hj⟩) (by rw [List.length_replicate, HL.out]; exact hm3) (rep_cells m v) w.heap.size w HB.out.drew (Nat.le_refl _) ?_; intro w4 hg4 hb4))
      all_goals
        go_simp
        go_wp2_with fail
        go_roundw
        case rel => exact ⟨n + m, by go_num, by omega, hm3, rep_more HL.out HV.out HO.out hm3 hg4.out hb4⟩
        case measure => simp [intOf]; omega
    · have hne : n = K := by omega
      subst hne
      go_wp2
      go_ret
      exact ⟨rfl, HR.out⟩
end Go.Proofs.Ytbidpeggdhkahaa
