/-
  E2: comps.reach.
-/
import Derived.Test.YtmccdakmdcdbeaaE1
import Derived.Laws.MakeOwn
import Derived.Laws.OwnMore
import Derived.Deep.RegionLaw
import Derived.Laws.Bits64
import Derived.BigRegion
set_option linter.unusedSimpArgs false
set_option linter.unusedVariables false
namespace Go.Proofs.Ytmccdakmdcdbeaa
open Go.RowKit

theorem infoU64 : (Try.prog.info? 104).map (fun i => (i.zero, i.size, i.bytes)) = some (some (.int .u64 0), 1, 8) := by kernel_rfl
/-- A row of bits a name. -/
def rowsArr (K : Nat) (R : Nat → Nat) : Array Value := (Array.range K).map (fun i => Value.int .u64 (R i))
def rowsObj (K : Nat) (R : Nat → Nat) : Obj := .cells (rowsArr K R) 104 (0, 0)
def updR (R : Nat → Nat) (i v : Nat) : Nat → Nat := fun k => if k = i then v else R k
theorem rowsArr_set (K : Nat) (R : Nat → Nat) (i v : Nat) : (rowsArr K R).setIfInBounds i (.int .u64 v) = rowsArr K (updR R i v) := by
  apply Array.ext
  · simp [rowsArr]
  · intro j h1 h2
    simp only [rowsArr, Array.size_setIfInBounds, Array.size_map, Array.size_range] at h1
    simp [rowsArr, Array.getElem_setIfInBounds, updR, h1]
    by_cases h : i = j
    · subst h; simp
    · simp [h, Ne.symm h, fun e => h (Eq.symm e)]
theorem rowsArr_at {K i : Nat} (R : Nat → Nat) (h : i < K) : (rowsArr K R)[i]? = some (.int .u64 (R i)) := by simp [rowsArr, h]
theorem rowsArr_zero (K : Nat) : madeCells #[.int .u64 0] K = rowsArr K (fun _ => 0) := by
  apply Array.toList_inj.1
  rw [toList_madeCells_one]
  apply List.ext_getElem
  · simp [rowsArr]
  · intro j h1 h2; simp [rowsArr]
theorem rowsObj_eq {K : Nat} {R R' : Nat → Nat} (h : ∀ i, i < K → R i = R' i) : rowsObj K R = rowsObj K R' := by
  unfold rowsObj rowsArr
  congr 1
  apply Array.map_congr_left
  intro i hi
  rw [h i (by simpa using hi)]
theorem rows_run (K : Nat) (h : K ≤ 64) : ∀ w : World, (Instr.makeSlice 106 (.int .i64 (K : Int)) (.int .i64 (K : Int))).run Try.prog w = .ok (.slice (some ⟨w.heap.size, 0, none⟩) K K) (w.alloc (rowsObj K (fun _ => 0))) := by
  intro w
  obtain ⟨i0, hi, hz0, hz1, hz2⟩ := info_parts infoU64
  have h := run_make (P := Try.prog) w 106 104 i0 (.int .u64 0) Try.underlying106 hi hz0 .i64 .i64 (K : Int) (K : Int) (by omega) (by omega) (by rw [hz2]; omega) (by omega)
  rw [h, hz1]
  simp only [Int.toNat_natCast, Nat.mul_one, rowsObj, ← rowsArr_zero]
  rfl
theorem pow_wrap (k : Nat) (h : k < 64) : IntKind.u64.wrap ((2 : Int) ^ k) = ((2 ^ k : Nat) : Int) := by
  have h1 : 2 ^ k ≤ 2 ^ 63 := Nat.pow_le_pow_right (by omega) (by omega)
  have h2 : ((2 ^ k : Nat) : Int) = (2 : Int) ^ k := by push_cast; rfl
  rw [← h2]
  generalize 2 ^ k = m at h1
  rw [IntKind.wrap_u64]
  omega
def firstR (k : Nat) : Nat → Nat := fun i => if i < k then 2 ^ i else 0
theorem firstR_succ (k : Nat) : updR (firstR k) k (2 ^ k) = firstR (k + 1) := by
  funext i
  unfold updR firstR
  by_cases h : i = k
  · subst h; simp
  · by_cases h2 : i < k
    · simp [h, h2]; omega
    · have : ¬ i < k + 1 := by omega
      simp [h, h2, this]
def ReachRel1 (w : World) (K : Nat) (cnt : Value) (wr : World) : Prop := ∃ k : Nat, cnt = .int .i64 k ∧ k ≤ K ∧ wr.heap[w.heap.size]? = some (rowsObj K (firstR k)) ∧ Below w.heap.size w wr
/-- The rows behind the edges. -/
def edgeR (es : List Edg) : Nat → Nat → Nat
  | 0 => fun i => 2 ^ i
  | n + 1 => match es[n]? with | some e => updR (edgeR es n) e.fr (edgeR es n e.fr ||| 2 ^ e.to) | none => edgeR es n
theorem pow_lt64 {k : Nat} (h : k < 64) : 2 ^ k < 18446744073709551616 := by
  have h1 : 2 ^ k ≤ 2 ^ 63 := Nat.pow_le_pow_right (by omega) (by omega)
  omega
theorem or_lt64 {a b : Nat} (ha : a < 18446744073709551616) (hb : b < 18446744073709551616) : a ||| b < 18446744073709551616 := Nat.or_lt_two_pow (n := 64) ha hb
theorem edgeR_lt {K : Nat} {es : List Edg} (hK : K ≤ 64) (hE : EdgesIn K es) : ∀ n i, i < 64 → edgeR es n i < 18446744073709551616 := by
  intro n
  induction n with
  | zero => intro i hi; exact pow_lt64 hi
  | succ n ih =>
    intro i hi
    unfold edgeR
    cases hx : es[n]? with
    | none => exact ih i hi
    | some e =>
      have hin := hE e (List.mem_of_getElem? hx)
      simp only [updR]
      split
      · exact or_lt64 (ih _ (by omega)) (pow_lt64 (by omega))
      · exact ih i hi
/-- Row k lent to the first i rows that hold it. -/
def warIn (k : Nat) (R : Nat → Nat) : Nat → Nat → Nat
  | 0 => R
  | i + 1 => if (warIn k R i i).testBit k then updR (warIn k R i) i (warIn k R i i ||| warIn k R i k) else warIn k R i
def warR (K : Nat) (R : Nat → Nat) : Nat → Nat → Nat
  | 0 => R
  | k + 1 => warIn k (warR K R k) K
def ReachRel3 (w : World) (K : Nat) (R : Nat → Nat) (cnt : Value) (wr : World) : Prop := ∃ k : Nat, cnt = .int .i64 k ∧ k ≤ K ∧ wr.heap[w.heap.size]? = some (rowsObj K (warR K R k)) ∧ (∀ i, i < K → warR K R k i < 18446744073709551616) ∧ Below w.heap.size w wr
def ReachRel4 (w : World) (K k : Nat) (R : Nat → Nat) (cnt : Value) (wr : World) : Prop := ∃ i : Nat, cnt = .int .i64 i ∧ i ≤ K ∧ wr.heap[w.heap.size]? = some (rowsObj K (warIn k R i)) ∧ (∀ j, j < K → warIn k R i j < 18446744073709551616) ∧ Below w.heap.size w wr
def ReachRel2 (w : World) (K : Nat) (es : List Edg) (cnt : Value) (wr : World) : Prop := ∃ k : Nat, cnt = .int .i64 k ∧ k ≤ es.length ∧ wr.heap[w.heap.size]? = some (rowsObj K (edgeR es k)) ∧ Below w.heap.size w wr

theorem bit_test {v k : Nat} (hv : v < 18446744073709551616) : (bits .and .u64 ((v : Int) / 2 ^ k) 1 == 1) = v.testBit k := by
  have h1 : ((v : Int) / 2 ^ k) = ((v / 2 ^ k : Nat) : Int) := by push_cast; rfl
  have h2 : v / 2 ^ k < 18446744073709551616 := Nat.lt_of_le_of_lt (Nat.div_le_self _ _) hv
  have h3 := bits_and_u64_nat (v / 2 ^ k) 1 h2 (by omega)
  rw [h1]
  rw [show ((1 : Nat) : Int) = 1 from rfl] at h3
  rw [h3, Nat.and_one_is_mod, Nat.testBit_eq_decide_div_mod_eq, Bool.eq_iff_iff]
  simp
  omega
theorem updR_lt {K i v : Nat} {R : Nat → Nat} (h : ∀ j, j < K → R j < 18446744073709551616) (hv : v < 18446744073709551616) : ∀ j, j < K → updR R i v j < 18446744073709551616 := by
  intro j hj
  unfold updR
  split
  · exact hv
  · exact h j hj
def ReachPost (w : World) (K : Nat) (es : List Edg) (e : Ending) (w' : World) : Prop :=
  e = .returned (.slice (some ⟨w.heap.size, 0, none⟩) K K) ∧ w'.heap[w.heap.size]? = some (rowsObj K (warR K (edgeR es es.length) K)) ∧ (∀ i, i < K → warR K (edgeR es es.length) K i < 18446744073709551616) ∧ Below w.heap.size w w'

set_option maxRecDepth 100000 in
set_option maxHeartbeats 2000000 in
theorem reach_any {w : World} {K : Nat} {es : List Edg} {A : Option Addr} {c : Nat} (hK : K ≤ 64) (hE : EdgesIn K es) (hC : edgRd.C w A es) (hl : es.length ≤ 9223372036854775807) :
    Calls Try.prog 62 #[.int .i64 K, .slice A es.length c] w (ReachPost w K es) := by
  have hmk := rows_run K hK
  go_enter Try.func62, Try.ntmps62
  go_wp2_with fail
  go_loopw [15] (fun cnt wr => ReachRel1 w K cnt wr) (fun cnt _ => K - (intOf cnt).toNat)
  case atStart => exact ⟨0, rfl, Nat.zero_le _, heap_alloc_new w _, below_alloc' (below_refl w) _⟩
  case round =>
    clear hmk
    obtain ⟨k, rfl, hk, hr, hb⟩ := hrel
    have HB := Lib.hid hb
    have HR := Lib.hid hr
    clear hb hr
    by_cases hlt : k < K
    · have x0 := (blk_cell HR.out k).trans (rowsArr_at _ hlt)
      have f0 := blk_frozen HR.out k
      have hw := blk_lt HR.out
      have hki : (k : Int) < K := by omega
      have hp := pow_wrap k (by omega)
      go_wp2_with fail
      go_roundw
      case rel => exact ⟨k + 1, by go_num, hlt, by rw [← firstR_succ, rowsObj, ← rowsArr_set]; exact blk_set HR.out k _, HB.out.setCell (Nat.le_refl _) _⟩
      case measure => simp [intOf]; omega
    · have hke : k = K := by omega
      have HR0 := Lib.hid (show wr.heap[w.heap.size]? = some (rowsObj K (edgeR es 0)) by rw [HR.out, hke]; exact congrArg some (rowsObj_eq (fun i hi => by simp [firstR, edgeR, hi])))
      go_wp2_with fail
      go_loopw [26] (fun cnt wr => ReachRel2 w K es cnt wr) (fun cnt _ => es.length - (intOf cnt).toNat)
      case atStart => exact ⟨0, rfl, Nat.zero_le _, HR0.out, HB.out⟩
      case round =>
        clear HR HR0 HB
        obtain ⟨q, rfl, hq, hr, hb⟩ := hrel
        have HB := Lib.hid hb
        have HR := Lib.hid hr
        clear hb hr
        by_cases hltq : q < es.length
        · obtain ⟨x, hx⟩ : ∃ x, es[q]? = some x := ⟨_, List.getElem?_eq_getElem hltq⟩
          obtain ⟨ad, eA, -, q0, q1, q2⟩ := edg_at (hC.mono HB.out) hx
          subst eA
          have hki : (q : Int) < es.length := by omega
          have hin := hE x (List.mem_of_getElem? hx)
          have i1 := hin.1
          have i2 := hin.2
          have hba := below_alloc' (below_refl wr) (Obj.cells #[Value.int .i64 x.fr, Value.int .i64 x.to, Value.bool x.neg] 81)
          have B8 := heap_alloc_new wr (Obj.cells #[Value.int .i64 x.fr, Value.int .i64 x.to, Value.bool x.neg] 81)
          have hp := pow_wrap x.to (by omega)
          have HES := Lib.hid (show edgeR es (q + 1) = updR (edgeR es q) x.fr (edgeR es q x.fr ||| 2 ^ x.to) by simp only [edgeR, hx])
          clear hx hin
          go_wp2_with fail
          clear q0 q1 q2
          generalize wr.alloc (Obj.cells #[Value.int .i64 x.fr, Value.int .i64 x.to, Value.bool x.neg] 81) = w4 at hba B8 ⊢
          have R4 := Lib.hid (blk_below HR.out hba)
          have x0 := (blk_cell R4.out x.fr).trans (rowsArr_at (edgeR es q) i1)
          have f0 := blk_frozen R4.out x.fr
          have s0 := blk_cell B8 0
          have s1 := blk_cell B8 1
          have hw := blk_lt R4.out
          have HB4 := Lib.hid (below_then HB.out hba)
          obtain ⟨v0, hv0⟩ : ∃ v0, v0 = edgeR es q x.fr := ⟨_, rfl⟩
          rw [← hv0] at x0
          have HV := Lib.hid hv0
          have eOr : bits .or .u64 (v0 : Int) ((2 : Int) ^ x.to) = ((v0 ||| 2 ^ x.to : Nat) : Int) := by
            rw [show ((2 : Int) ^ x.to) = ((2 ^ x.to : Nat) : Int) by push_cast; rfl]
            exact bits_or_u64_nat _ _ (by rw [hv0]; exact edgeR_lt hK hE _ _ (by omega)) (pow_lt64 (by omega))
          clear hba B8 hv0
          go_region
          all_goals
            go_wp2_with fail
            go_roundw
            case rel => exact ⟨q + 1, by go_num, hltq, by rw [HES.out, rowsObj, ← rowsArr_set]; simp only [eOr, HV.out]; exact blk_set R4.out x.fr _, (HB4.out.setCell (Nat.le_refl _) _).drew⟩
            case measure => simp [intOf]; omega
        · have hqe : q = es.length := by omega
          have HR0 := Lib.hid (show wr.heap[w.heap.size]? = some (rowsObj K (warR K (edgeR es es.length) 0)) by rw [HR.out, hqe]; rfl)
          have hlt0 : ∀ i, i < K → warR K (edgeR es es.length) 0 i < 18446744073709551616 := fun i hi => edgeR_lt hK hE _ i (by omega)
          have HW0 := Lib.hid hlt0
          clear hlt0
          go_wp2_with fail
          go_loopw [43] (fun cnt wr => ReachRel3 w K (edgeR es es.length) cnt wr) (fun cnt _ => K - (intOf cnt).toNat)
          case atStart => exact ⟨0, rfl, Nat.zero_le _, HR0.out, HW0.out, HB.out⟩
          case round =>
            clear HR HR0 HB HW0
            obtain ⟨k, rfl, hk3, hr, hlt3, hb⟩ := hrel
            have HB := Lib.hid hb
            have HR := Lib.hid hr
            have HW := Lib.hid hlt3
            clear hb hr hlt3
            by_cases hltk : k < K
            · have hki : (k : Int) < K := by omega
              go_wp2_with fail
              go_loopw [48] (fun cnt wr => ReachRel4 w K k (warR K (edgeR es es.length) k) cnt wr) (fun cnt _ => K - (intOf cnt).toNat)
              case atStart => exact ⟨0, rfl, Nat.zero_le _, HR.out, HW.out, HB.out⟩
              case round =>
                clear HR HB HW
                obtain ⟨i, rfl, hi4, hr, hlt4, hb⟩ := hrel
                have HB := Lib.hid hb
                have HR := Lib.hid hr
                have HW := Lib.hid hlt4
                clear hb hr hlt4
                by_cases hlti : i < K
                · have hii : (i : Int) < K := by omega
                  obtain ⟨R, hR⟩ : ∃ R, R = warIn k (warR K (edgeR es es.length) k) i := ⟨_, rfl⟩
                  rw [← hR] at HR HW
                  have HRR := Lib.hid hR
                  clear hR
                  have x0 := (blk_cell HR.out i).trans (rowsArr_at R hlti)
                  have x1 := (blk_cell HR.out k).trans (rowsArr_at R hltk)
                  have f0 := blk_frozen HR.out i
                  have hw := blk_lt HR.out
                  have l1 := HW.out i hlti
                  have l2 := HW.out k hltk
                  have HBT := Lib.hid (bit_test l1 (k := k))
                  have eOr : bits .or .u64 (R i : Int) (R k : Int) = ((R i ||| R k : Nat) : Int) := bits_or_u64_nat _ _ l1 l2
                  cases htb : (R i).testBit k with
                  | false =>
                    have hbt : (bits .and .u64 ((R i : Int) / 2 ^ k) 1 == 1) = false := by rw [HBT.out, htb]
                    have HN := Lib.hid (show warIn k (warR K (edgeR es es.length) k) (i + 1) = R by simp only [warIn, ← HRR.out, htb]; simp)
                    clear eOr htb
                    go_wp2_with fail
                    go_roundw
                    case rel => exact ⟨i + 1, by go_num, hlti, by rw [HN.out]; exact HR.out, by rw [HN.out]; exact HW.out, HB.out⟩
                    case measure => simp [intOf]; omega
                  | true =>
                    have hbt : (bits .and .u64 ((R i : Int) / 2 ^ k) 1 == 1) = true := by rw [HBT.out, htb]
                    have HN := Lib.hid (show warIn k (warR K (edgeR es es.length) k) (i + 1) = updR R i (R i ||| R k) by simp only [warIn, ← HRR.out, htb]; simp)
                    clear htb
                    go_wp2_with fail
                    clear hbt
                    go_region
                    all_goals
                      go_wp2_with fail
                      go_roundw
                      case rel => exact ⟨i + 1, by go_num, hlti, by rw [HN.out, rowsObj, ← rowsArr_set]; exact blk_set HR.out i _, by rw [HN.out]; exact updR_lt HW.out (or_lt64 l1 l2), (HB.out.setCell (Nat.le_refl _) _).drew⟩
                      case measure => simp [intOf]; omega
                · have hie : i = K := by omega
                  have HN := Lib.hid (show warR K (edgeR es es.length) (k + 1) = warIn k (warR K (edgeR es es.length) k) i by rw [hie]; rfl)
                  go_wp2_with fail
                  go_roundw
                  case rel => exact ⟨k + 1, by go_num, hltk, by rw [HN.out]; exact HR.out, by rw [HN.out]; exact HW.out, HB.out⟩
                  case measure => simp [intOf]; omega
            · have hke3 : k = K := by omega
              go_wp2
              go_ret
              exact ⟨rfl, by have h := HR.out; rw [hke3] at h; exact h, by have h := HW.out; rw [hke3] at h; exact h, HB.out⟩
end Go.Proofs.Ytmccdakmdcdbeaa
