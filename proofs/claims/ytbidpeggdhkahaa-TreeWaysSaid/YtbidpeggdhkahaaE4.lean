/-
  E1: edges; comps.may.
  E2: comps.reach.
  E3: comps.Reaches; what its bits say.
  E4: Reaches says that a row of edges leads from one to another. No program in sight.
-/
import Derived.Test.YtbidpeggdhkahaaG2
import Derived.Laws.MakeOwn
import Derived.Laws.OwnMore
import Derived.Deep.RegionLaw
import Derived.Laws.Bits64
import Derived.BigRegion
set_option linter.unusedSimpArgs false
set_option linter.unusedVariables false
namespace Go.Proofs.Ytbidpeggdhkahaa
open Go.RowKit

/-- An edge between names that are there. -/
structure Edg where
  fr : Nat
  to : Nat
  neg : Bool
def edgRd : Rd Edg := Rd.iso (Rd.pair Rd.int (Rd.pair Rd.int Rd.bool)) (fun x => ((x.fr : Int), (x.to : Int), x.neg))
theorem edgRd_open {w : World} {x : Edg} {cs : List Value} (h : edgRd.K w x cs) : cs = [.int .i64 x.fr, .int .i64 x.to, .bool x.neg] := by
  obtain ⟨c1, c2, rfl, rfl, c3, c4, rfl, rfl, rfl⟩ := h
  rfl
theorem edgRd_mk (w : World) (x : Edg) : edgRd.K w x [.int .i64 x.fr, .int .i64 x.to, .bool x.neg] := ⟨[_], [_, _], rfl, rfl, [_], [_], rfl, rfl, rfl⟩
theorem edg_at {w : World} {A : Option Addr} {xs : List Edg} (h : edgRd.C w A xs) {i : Nat} {x : Edg} (hx : xs[i]? = some x) :
    ∃ ad, A = some ad ∧ ad.block < w.heap.size ∧ w.cell? (ad.add (i * 3)) = some (.int .i64 x.fr) ∧
      w.cell? ⟨(ad.add (i * 3)).block, (ad.add (i * 3)).off + 1, none⟩ = some (.int .i64 x.to) ∧
      w.cell? ⟨(ad.add (i * 3)).block, (ad.add (i * 3)).off + 2, none⟩ = some (.bool x.neg) := by
  obtain ⟨ad, cs, hA, hK, hc⟩ := h i x hx
  obtain rfl := edgRd_open hK
  have h0 := hc 0 _ rfl
  have h1 := hc 1 _ rfl
  have h2 := hc 2 _ rfl
  rw [show edgRd.sz = 3 from rfl] at h0 h1 h2
  rw [add_off _ _ _ (by omega)] at h1 h2
  refine ⟨ad, hA, ?_, h0, h1, h2⟩
  have := World.block_lt_of_cell? w _ h0
  rwa [block_of_add] at this
/-- Edges among K names. -/
def EdgesIn (K : Nat) (es : List Edg) : Prop := ∀ e ∈ es, e.fr < K ∧ e.to < K
def MayERel (w : World) (es : List Edg) (cnt : Value) (wr : World) : Prop := ∃ k : Nat, cnt = .int .i64 k ∧ k ≤ es.length ∧ Below w.heap.size w wr

set_option maxRecDepth 100000 in
set_option maxHeartbeats 2000000 in
theorem cmay_any {w : World} {K : Nat} {es : List Edg} {A : Option Addr} {c : Nat} (hK : K ≤ 64) (hE : EdgesIn K es) (hC : edgRd.C w A es) (hl : es.length ≤ 9223372036854775807) :
    Calls Try.prog 61 #[.int .i64 K, .slice A es.length c] w fun e w' => e = .returned (.bool true) ∧ Below w.heap.size w w' := by
  have k1 : decide ((K : Int) < 0) = false := by simp
  have k2 : decide ((64 : Int) < K) = false := by simp; omega
  go_enter Try.func61, Try.ntmps61
  go_wp2_with fail
  go_loopw [15] (fun cnt wr => MayERel w es cnt wr) (fun cnt _ => es.length - (intOf cnt).toNat)
  case atStart => exact ⟨0, rfl, Nat.zero_le _, below_refl _⟩
  case round =>
    obtain ⟨k, rfl, hk, hb⟩ := hrel
    have HB := Lib.hid hb
    clear hb
    by_cases hlt : k < es.length
    · obtain ⟨x, hx⟩ : ∃ x, es[k]? = some x := ⟨_, List.getElem?_eq_getElem hlt⟩
      obtain ⟨ad, eA, -, q0, q1, q2⟩ := edg_at (hC.mono HB.out) hx
      subst eA
      have hki : (k : Int) < es.length := by omega
      have hin := hE x (List.mem_of_getElem? hx)
      have d1 : decide ((x.fr : Int) < 0) = false := by simp
      have d2 : decide ((K : Int) ≤ x.fr) = false := by simp; omega
      have d3 : decide ((x.to : Int) < 0) = false := by simp
      have d4 : decide ((K : Int) ≤ x.to) = false := by simp; omega
      have f1 := hin.1
      have f2 := hin.2
      clear hx hin
      have hba := below_alloc' (below_refl wr) (Obj.cells #[Value.int .i64 x.fr, Value.int .i64 x.to, Value.bool x.neg] 100)
      have HBA := Lib.hid hba
      clear hba
      go_wp2_with fail
      go_roundw
      case rel => exact ⟨k + 1, by go_num, hlt, below_then HB.out HBA.out⟩
      case measure => simp [intOf]; omega
    · go_wp2
      go_ret
      exact ⟨rfl, HB.out⟩
end Go.Proofs.Ytbidpeggdhkahaa

set_option linter.unusedSimpArgs false
set_option linter.unusedVariables false
namespace Go.Proofs.Ytbidpeggdhkahaa
open Go.RowKit

theorem infoU64 : (Try.prog.info? 68).map (fun i => (i.zero, i.size, i.bytes)) = some (some (.int .u64 0), 1, 8) := by kernel_rfl
/-- A row of bits a name. -/
def rowsArr (K : Nat) (R : Nat → Nat) : Array Value := (Array.range K).map (fun i => Value.int .u64 (R i))
def rowsObj (K : Nat) (R : Nat → Nat) : Obj := .cells (rowsArr K R) 68 (0, 0)
def updR (R : Nat → Nat) (i v : Nat) : Nat → Nat := fun k => if k = i then v else R k
theorem rowsArr_set (K : Nat) (R : Nat → Nat) (i v : Nat) : (rowsArr K R).setIfInBounds i (.int .u64 v) = rowsArr K (updR R i v) := by
  apply Array.ext
  · simp [rowsArr]
  · intro j h1 h2
    simp only [rowsArr, Array.size_setIfInBounds, Array.size_map, Array.size_range] at h1
    simp [rowsArr, Array.getElem_setIfInBounds, updR, h1]
    by_cases h : i = j
    · subst h; simp
    · simp [h, Ne.symm h, fun e => h (Eq.symm e)]
theorem rowsArr_at {K i : Nat} (R : Nat → Nat) (h : i < K) : (rowsArr K R)[i]? = some (.int .u64 (R i)) := by simp [rowsArr, h]
theorem rowsArr_zero (K : Nat) : madeCells #[.int .u64 0] K = rowsArr K (fun _ => 0) := by
  apply Array.toList_inj.1
  rw [toList_madeCells_one]
  apply List.ext_getElem
  · simp [rowsArr]
  · intro j h1 h2; simp [rowsArr]
theorem rowsObj_eq {K : Nat} {R R' : Nat → Nat} (h : ∀ i, i < K → R i = R' i) : rowsObj K R = rowsObj K R' := by
  unfold rowsObj rowsArr
  congr 1
  apply Array.map_congr_left
  intro i hi
  rw [h i (by simpa using hi)]
theorem rows_run (K : Nat) (h : K ≤ 64) : ∀ w : World, (Instr.makeSlice 131 (.int .i64 (K : Int)) (.int .i64 (K : Int))).run Try.prog w = .ok (.slice (some ⟨w.heap.size, 0, none⟩) K K) (w.alloc (rowsObj K (fun _ => 0))) := by
  intro w
  obtain ⟨i0, hi, hz0, hz1, hz2⟩ := info_parts infoU64
  have h := run_make (P := Try.prog) w 131 68 i0 (.int .u64 0) Try.underlying131 hi hz0 .i64 .i64 (K : Int) (K : Int) (by omega) (by omega) (by rw [hz2]; omega) (by omega)
  rw [h, hz1]
  simp only [Int.toNat_natCast, Nat.mul_one, rowsObj, ← rowsArr_zero]
  rfl
theorem pow_wrap (k : Nat) (h : k < 64) : IntKind.u64.wrap ((2 : Int) ^ k) = ((2 ^ k : Nat) : Int) := by
  have h1 : 2 ^ k ≤ 2 ^ 63 := Nat.pow_le_pow_right (by omega) (by omega)
  have h2 : ((2 ^ k : Nat) : Int) = (2 : Int) ^ k := by push_cast; rfl
  rw [← h2]
  generalize 2 ^ k = m at h1
  rw [IntKind.wrap_u64]
  omega
def firstR (k : Nat) : Nat → Nat := fun i => if i < k then 2 ^ i else 0
theorem firstR_succ (k : Nat) : updR (firstR k) k (2 ^ k) = firstR (k + 1) := by
  funext i
  unfold updR firstR
  by_cases h : i = k
  · subst h; simp
  · by_cases h2 : i < k
    · simp [h, h2]; omega
    · have : ¬ i < k + 1 := by omega
      simp [h, h2, this]
def ReachRel1 (w : World) (K : Nat) (cnt : Value) (wr : World) : Prop := ∃ k : Nat, cnt = .int .i64 k ∧ k ≤ K ∧ wr.heap[w.heap.size]? = some (rowsObj K (firstR k)) ∧ Below w.heap.size w wr
/-- The rows behind the edges. -/
def edgeR (es : List Edg) : Nat → Nat → Nat
  | 0 => fun i => 2 ^ i
  | n + 1 => match es[n]? with | some e => updR (edgeR es n) e.fr (edgeR es n e.fr ||| 2 ^ e.to) | none => edgeR es n
theorem pow_lt64 {k : Nat} (h : k < 64) : 2 ^ k < 18446744073709551616 := by
  have h1 : 2 ^ k ≤ 2 ^ 63 := Nat.pow_le_pow_right (by omega) (by omega)
  omega
theorem or_lt64 {a b : Nat} (ha : a < 18446744073709551616) (hb : b < 18446744073709551616) : a ||| b < 18446744073709551616 := Nat.or_lt_two_pow (n := 64) ha hb
theorem edgeR_lt {K : Nat} {es : List Edg} (hK : K ≤ 64) (hE : EdgesIn K es) : ∀ n i, i < 64 → edgeR es n i < 18446744073709551616 := by
  intro n
  induction n with
  | zero => intro i hi; exact pow_lt64 hi
  | succ n ih =>
    intro i hi
    unfold edgeR
    cases hx : es[n]? with
    | none => exact ih i hi
    | some e =>
      have hin := hE e (List.mem_of_getElem? hx)
      simp only [updR]
      split
      · exact or_lt64 (ih _ (by omega)) (pow_lt64 (by omega))
      · exact ih i hi
/-- Row k lent to the first i rows that hold it. -/
def warIn (k : Nat) (R : Nat → Nat) : Nat → Nat → Nat
  | 0 => R
  | i + 1 => if (warIn k R i i).testBit k then updR (warIn k R i) i (warIn k R i i ||| warIn k R i k) else warIn k R i
def warR (K : Nat) (R : Nat → Nat) : Nat → Nat → Nat
  | 0 => R
  | k + 1 => warIn k (warR K R k) K
def ReachRel3 (w : World) (K : Nat) (R : Nat → Nat) (cnt : Value) (wr : World) : Prop := ∃ k : Nat, cnt = .int .i64 k ∧ k ≤ K ∧ wr.heap[w.heap.size]? = some (rowsObj K (warR K R k)) ∧ (∀ i, i < K → warR K R k i < 18446744073709551616) ∧ Below w.heap.size w wr
def ReachRel4 (w : World) (K k : Nat) (R : Nat → Nat) (cnt : Value) (wr : World) : Prop := ∃ i : Nat, cnt = .int .i64 i ∧ i ≤ K ∧ wr.heap[w.heap.size]? = some (rowsObj K (warIn k R i)) ∧ (∀ j, j < K → warIn k R i j < 18446744073709551616) ∧ Below w.heap.size w wr
def ReachRel2 (w : World) (K : Nat) (es : List Edg) (cnt : Value) (wr : World) : Prop := ∃ k : Nat, cnt = .int .i64 k ∧ k ≤ es.length ∧ wr.heap[w.heap.size]? = some (rowsObj K (edgeR es k)) ∧ Below w.heap.size w wr

theorem bit_test {v k : Nat} (hv : v < 18446744073709551616) : (bits .and .u64 ((v : Int) / 2 ^ k) 1 == 1) = v.testBit k := by
  have h1 : ((v : Int) / 2 ^ k) = ((v / 2 ^ k : Nat) : Int) := by push_cast; rfl
  have h2 : v / 2 ^ k < 18446744073709551616 := Nat.lt_of_le_of_lt (Nat.div_le_self _ _) hv
  have h3 := bits_and_u64_nat (v / 2 ^ k) 1 h2 (by omega)
  rw [h1]
  rw [show ((1 : Nat) : Int) = 1 from rfl] at h3
  rw [h3, Nat.and_one_is_mod, Nat.testBit_eq_decide_div_mod_eq, Bool.eq_iff_iff]
  simp
  omega
theorem updR_lt {K i v : Nat} {R : Nat → Nat} (h : ∀ j, j < K → R j < 18446744073709551616) (hv : v < 18446744073709551616) : ∀ j, j < K → updR R i v j < 18446744073709551616 := by
  intro j hj
  unfold updR
  split
  · exact hv
  · exact h j hj
def ReachPost (w : World) (K : Nat) (es : List Edg) (e : Ending) (w' : World) : Prop :=
  e = .returned (.slice (some ⟨w.heap.size, 0, none⟩) K K) ∧ w'.heap[w.heap.size]? = some (rowsObj K (warR K (edgeR es es.length) K)) ∧ (∀ i, i < K → warR K (edgeR es es.length) K i < 18446744073709551616) ∧ Below w.heap.size w w'

set_option maxRecDepth 100000 in
set_option maxHeartbeats 2000000 in
theorem reach_any {w : World} {K : Nat} {es : List Edg} {A : Option Addr} {c : Nat} (hK : K ≤ 64) (hE : EdgesIn K es) (hC : edgRd.C w A es) (hl : es.length ≤ 9223372036854775807) :
    Calls Try.prog 62 #[.int .i64 K, .slice A es.length c] w (ReachPost w K es) := by
  have hmk := rows_run K hK
  go_enter Try.func62, Try.ntmps62
  go_wp2_with fail
  go_loopw [15] (fun cnt wr => ReachRel1 w K cnt wr) (fun cnt _ => K - (intOf cnt).toNat)
  case atStart => exact ⟨0, rfl, Nat.zero_le _, heap_alloc_new w _, below_alloc' (below_refl w) _⟩
  case round =>
    clear hmk
    obtain ⟨k, rfl, hk, hr, hb⟩ := hrel
    have HB := Lib.hid hb
    have HR := Lib.hid hr
    clear hb hr
    by_cases hlt : k < K
    · have x0 := (blk_cell HR.out k).trans (rowsArr_at _ hlt)
      have f0 := blk_frozen HR.out k
      have hw := blk_lt HR.out
      have hki : (k : Int) < K := by omega
      have hp := pow_wrap k (by omega)
      go_wp2_with fail
      go_roundw
      case rel => exact ⟨k + 1, by go_num, hlt, by rw [← firstR_succ, rowsObj, ← rowsArr_set]; exact blk_set HR.out k _, HB.out.setCell (Nat.le_refl _) _⟩
      case measure => simp [intOf]; omega
    · have hke : k = K := by omega
      have HR0 := Lib.hid (show wr.heap[w.heap.size]? = some (rowsObj K (edgeR es 0)) by rw [HR.out, hke]; exact congrArg some (rowsObj_eq (fun i hi => by simp [firstR, edgeR, hi])))
      go_wp2_with fail
      go_loopw [26] (fun cnt wr => ReachRel2 w K es cnt wr) (fun cnt _ => es.length - (intOf cnt).toNat)
      case atStart => exact ⟨0, rfl, Nat.zero_le _, HR0.out, HB.out⟩
      case round =>
        clear HR HR0 HB
        obtain ⟨q, rfl, hq, hr, hb⟩ := hrel
        have HB := Lib.hid hb
        have HR := Lib.hid hr
        clear hb hr
        by_cases hltq : q < es.length
        · obtain ⟨x, hx⟩ : ∃ x, es[q]? = some x := ⟨_, List.getElem?_eq_getElem hltq⟩
          obtain ⟨ad, eA, -, q0, q1, q2⟩ := edg_at (hC.mono HB.out) hx
          subst eA
          have hki : (q : Int) < es.length := by omega
          have hin := hE x (List.mem_of_getElem? hx)
          have i1 := hin.1
          have i2 := hin.2
          have hba := below_alloc' (below_refl wr) (Obj.cells #[Value.int .i64 x.fr, Value.int .i64 x.to, Value.bool x.neg] 100)
          have B8 := heap_alloc_new wr (Obj.cells #[Value.int .i64 x.fr, Value.int .i64 x.to, Value.bool x.neg] 100)
          have hp := pow_wrap x.to (by omega)
          have HES := Lib.hid (show edgeR es (q + 1) = updR (edgeR es q) x.fr (edgeR es q x.fr ||| 2 ^ x.to) by simp only [edgeR, hx])
          clear hx hin
          go_wp2_with fail
          clear q0 q1 q2
          generalize wr.alloc (Obj.cells #[Value.int .i64 x.fr, Value.int .i64 x.to, Value.bool x.neg] 100) = w4 at hba B8 ⊢
          have R4 := Lib.hid (blk_below HR.out hba)
          have x0 := (blk_cell R4.out x.fr).trans (rowsArr_at (edgeR es q) i1)
          have f0 := blk_frozen R4.out x.fr
          have s0 := blk_cell B8 0
          have s1 := blk_cell B8 1
          have hw := blk_lt R4.out
          have HB4 := Lib.hid (below_then HB.out hba)
          obtain ⟨v0, hv0⟩ : ∃ v0, v0 = edgeR es q x.fr := ⟨_, rfl⟩
          rw [← hv0] at x0
          have HV := Lib.hid hv0
          have eOr : bits .or .u64 (v0 : Int) ((2 : Int) ^ x.to) = ((v0 ||| 2 ^ x.to : Nat) : Int) := by
            rw [show ((2 : Int) ^ x.to) = ((2 ^ x.to : Nat) : Int) by push_cast; rfl]
            exact bits_or_u64_nat _ _ (by rw [hv0]; exact edgeR_lt hK hE _ _ (by omega)) (pow_lt64 (by omega))
          clear hba B8 hv0
          go_region
          all_goals
            go_wp2_with fail
            go_roundw
            case rel => exact ⟨q + 1, by go_num, hltq, by rw [HES.out, rowsObj, ← rowsArr_set]; simp only [eOr, HV.out]; exact blk_set R4.out x.fr _, (HB4.out.setCell (Nat.le_refl _) _).drew⟩
            case measure => simp [intOf]; omega
        · have hqe : q = es.length := by omega
          have HR0 := Lib.hid (show wr.heap[w.heap.size]? = some (rowsObj K (warR K (edgeR es es.length) 0)) by rw [HR.out, hqe]; rfl)
          have hlt0 : ∀ i, i < K → warR K (edgeR es es.length) 0 i < 18446744073709551616 := fun i hi => edgeR_lt hK hE _ i (by omega)
          have HW0 := Lib.hid hlt0
          clear hlt0
          go_wp2_with fail
          go_loopw [43] (fun cnt wr => ReachRel3 w K (edgeR es es.length) cnt wr) (fun cnt _ => K - (intOf cnt).toNat)
          case atStart => exact ⟨0, rfl, Nat.zero_le _, HR0.out, HW0.out, HB.out⟩
          case round =>
            clear HR HR0 HB HW0
            obtain ⟨k, rfl, hk3, hr, hlt3, hb⟩ := hrel
            have HB := Lib.hid hb
            have HR := Lib.hid hr
            have HW := Lib.hid hlt3
            clear hb hr hlt3
            by_cases hltk : k < K
            · have hki : (k : Int) < K := by omega
              go_wp2_with fail
              go_loopw [48] (fun cnt wr => ReachRel4 w K k (warR K (edgeR es es.length) k) cnt wr) (fun cnt _ => K - (intOf cnt).toNat)
              case atStart => exact ⟨0, rfl, Nat.zero_le _, HR.out, HW.out, HB.out⟩
              case round =>
                clear HR HB HW
                obtain ⟨i, rfl, hi4, hr, hlt4, hb⟩ := hrel
                have HB := Lib.hid hb
                have HR := Lib.hid hr
                have HW := Lib.hid hlt4
                clear hb hr hlt4
                by_cases hlti : i < K
                · have hii : (i : Int) < K := by omega
                  obtain ⟨R, hR⟩ : ∃ R, R = warIn k (warR K (edgeR es es.length) k) i := ⟨_, rfl⟩
                  rw [← hR] at HR HW
                  have HRR := Lib.hid hR
                  clear hR
                  have x0 := (blk_cell HR.out i).trans (rowsArr_at R hlti)
                  have x1 := (blk_cell HR.out k).trans (rowsArr_at R hltk)
                  have f0 := blk_frozen HR.out i
                  have hw := blk_lt HR.out
                  have l1 := HW.out i hlti
                  have l2 := HW.out k hltk
                  have HBT := Lib.hid (bit_test l1 (k := k))
                  have eOr : bits .or .u64 (R i : Int) (R k : Int) = ((R i ||| R k : Nat) : Int) := bits_or_u64_nat _ _ l1 l2
                  cases htb : (R i).testBit k with
                  | false =>
                    have hbt : (bits .and .u64 ((R i : Int) / 2 ^ k) 1 == 1) = false := by rw [HBT.out, htb]
                    have HN := Lib.hid (show warIn k (warR K (edgeR es es.length) k) (i + 1) = R by simp only [warIn, ← HRR.out, htb]; simp)
                    clear eOr htb
                    go_wp2_with fail
                    go_roundw
                    case rel => exact ⟨i + 1, by go_num, hlti, by rw [HN.out]; exact HR.out, by rw [HN.out]; exact HW.out, HB.out⟩
                    case measure => simp [intOf]; omega
                  | true =>
                    have hbt : (bits .and .u64 ((R i : Int) / 2 ^ k) 1 == 1) = true := by rw [HBT.out, htb]
                    have HN := Lib.hid (show warIn k (warR K (edgeR es es.length) k) (i + 1) = updR R i (R i ||| R k) by simp only [warIn, ← HRR.out, htb]; simp)
                    clear htb
                    go_wp2_with fail
                    clear hbt
                    go_region
                    all_goals
                      go_wp2_with fail
                      go_roundw
                      case rel => exact ⟨i + 1, by go_num, hlti, by rw [HN.out, rowsObj, ← rowsArr_set]; exact blk_set HR.out i _, by rw [HN.out]; exact updR_lt HW.out (or_lt64 l1 l2), (HB.out.setCell (Nat.le_refl _) _).drew⟩
                      case measure => simp [intOf]; omega
                · have hie : i = K := by omega
                  have HN := Lib.hid (show warR K (edgeR es es.length) (k + 1) = warIn k (warR K (edgeR es es.length) k) i by rw [hie]; rfl)
                  go_wp2_with fail
                  go_roundw
                  case rel => exact ⟨k + 1, by go_num, hltk, by rw [HN.out]; exact HR.out, by rw [HN.out]; exact HW.out, HB.out⟩
                  case measure => simp [intOf]; omega
            · have hke3 : k = K := by omega
              go_wp2
              go_ret
              exact ⟨rfl, by have h := HR.out; rw [hke3] at h; exact h, by have h := HW.out; rw [hke3] at h; exact h, HB.out⟩
end Go.Proofs.Ytbidpeggdhkahaa

set_option linter.unusedSimpArgs false
set_option linter.unusedVariables false
namespace Go.Proofs.Ytbidpeggdhkahaa
open Go.RowKit

def reachB (K : Nat) (es : List Edg) (a b : Nat) : Bool := (warR K (edgeR es es.length) K a).testBit b

set_option maxRecDepth 100000 in
set_option maxHeartbeats 2000000 in
theorem reaches_any {w : World} {K : Nat} {es : List Edg} {A : Option Addr} {c : Nat} (hK : K ≤ 64) (hE : EdgesIn K es) (hC : edgRd.C w A es) (hl : es.length ≤ 9223372036854775807) {a b : Nat} (ha : a < K) (hb : b < K) :
    Calls Try.prog 46 #[.int .i64 K, .slice A es.length c, .int .i64 a, .int .i64 b] w fun e w' => e = .returned (.bool (reachB K es a b)) ∧ Below w.heap.size w w' := by
  have CM := Lib.hid (cmay_any (c := c) hK hE hC hl)
  have d1 : decide ((a : Int) < 0) = false := by simp
  have d2 : decide ((K : Int) ≤ a) = false := by simp; omega
  have d3 : decide ((b : Int) < 0) = false := by simp
  have d4 : decide ((K : Int) ≤ b) = false := by simp; omega
  go_enter Try.func46, Try.ntmps46
  go_wp2_with (first | (go_at_call 61; refine CM.out.mono ?_; rintro e w1 ⟨rfl, hb1⟩; have HB1 := Lib.hid hb1; have CR := Lib.hid (reach_any (c := c) hK hE (hC.mono hb1) hl); clear hb1) | (go_at_call 62; refine CR.out.mono ?_; rintro e w2 ⟨rfl, hh, hlt, hb2⟩; have x0 := (blk_cell hh a).trans (rowsArr_at _ ha); have HB2 := Lib.hid hb2; have HL := Lib.hid (hlt a ha); clear hb2 hh hlt; obtain ⟨v, hv⟩ : ∃ v, v = warR K (edgeR es es.length) K a := ⟨_, rfl⟩; rw [← hv] at x0 HL; have HV := Lib.hid hv; clear hv))
  go_ret
  refine ⟨ret_bool ?_, below_then HB1.out HB2.out⟩
  rw [bit_test HL.out, HV.out]
  rfl
end Go.Proofs.Ytbidpeggdhkahaa

set_option linter.unusedSimpArgs false
set_option linter.unusedVariables false
namespace Go.Proofs.Ytbidpeggdhkahaa

inductive Path (es : List Edg) : Nat → Nat → Prop
  | refl (a : Nat) : Path es a a
  | step {e : Edg} {b : Nat} (he : e ∈ es) (h : Path es e.to b) : Path es e.fr b
theorem Path.trans {es : List Edg} {a b c : Nat} (h : Path es a b) (k : Path es b c) : Path es a c := by
  induction h with
  | refl => exact k
  | step he _ ih => exact .step he (ih k)
theorem Path.one {es : List Edg} {e : Edg} (he : e ∈ es) : Path es e.fr e.to := .step he (.refl _)
theorem Path.lt {es : List Edg} {K a b : Nat} (hE : EdgesIn K es) (h : Path es a b) (ha : a < K) : b < K := by
  induction h with
  | refl => exact ha
  | step he _ ih => exact ih (hE _ he).2
theorem testBit_pow (i j : Nat) : (2 ^ i).testBit j = decide (i = j) := Nat.testBit_two_pow
theorem edgeR_sound (es : List Edg) : ∀ n i j, (edgeR es n i).testBit j = true → Path es i j := by
  intro n
  induction n with
  | zero =>
    intro i j h
    simp only [edgeR, testBit_pow, decide_eq_true_eq] at h
    subst h
    exact .refl _
  | succ n ih =>
    intro i j h
    unfold edgeR at h
    cases hx : es[n]? with
    | none => rw [hx] at h; exact ih i j h
    | some e =>
      rw [hx] at h
      simp only [updR] at h
      by_cases hi : i = e.fr
      · rw [if_pos hi, Nat.testBit_or, Bool.or_eq_true] at h
        subst hi
        rcases h with h | h
        · exact ih _ _ h
        · simp only [testBit_pow, decide_eq_true_eq] at h
          subst h
          exact .one (List.mem_of_getElem? hx)
      · rw [if_neg hi] at h
        exact ih i j h
theorem warIn_sound {es : List Edg} {k : Nat} {R : Nat → Nat} (h : ∀ i j, (R i).testBit j = true → Path es i j) : ∀ n i j, (warIn k R n i).testBit j = true → Path es i j := by
  intro n
  induction n with
  | zero => exact h
  | succ n ih =>
    intro i j hb
    unfold warIn at hb
    split at hb
    · rename_i hk
      simp only [updR] at hb
      by_cases hi : i = n
      · rw [if_pos hi, Nat.testBit_or, Bool.or_eq_true] at hb
        subst hi
        rcases hb with hb | hb
        · exact ih _ _ hb
        · exact (ih _ _ hk).trans (ih _ _ hb)
      · rw [if_neg hi] at hb
        exact ih i j hb
    · exact ih i j hb
theorem warR_sound {es : List Edg} {K : Nat} {R : Nat → Nat} (h : ∀ i j, (R i).testBit j = true → Path es i j) : ∀ k i j, (warR K R k i).testBit j = true → Path es i j := by
  intro k
  induction k with
  | zero => exact h
  | succ k ih => exact warIn_sound ih K
theorem warIn_mono {k : Nat} {R : Nat → Nat} : ∀ {n m : Nat}, n ≤ m → ∀ i j, (warIn k R n i).testBit j = true → (warIn k R m i).testBit j = true := by
  intro n m hnm
  induction hnm with
  | refl => intro i j h; exact h
  | step _ ih =>
    intro i j h
    have h1 := ih i j h
    rename_i m _
    rw [warIn]
    split
    · simp only [updR]
      by_cases hi : i = m
      · rw [if_pos hi, Nat.testBit_or, Bool.or_eq_true]
        subst hi
        exact .inl h1
      · rw [if_neg hi]; exact h1
    · exact h1
theorem warIn_full {k : Nat} {R : Nat → Nat} {n i j : Nat} (hi : i < n) (h1 : (R i).testBit k = true) (h2 : (R k).testBit j = true) : (warIn k R n i).testBit j = true := by
  refine warIn_mono (show i + 1 ≤ n by omega) i j ?_
  have a1 : (warIn k R i i).testBit k = true := warIn_mono (Nat.zero_le _) i k h1
  have a2 : (warIn k R i k).testBit j = true := warIn_mono (Nat.zero_le _) k j h2
  rw [warIn, if_pos a1]
  simp only [updR, if_true, Nat.testBit_or, a2, Bool.or_true]
/-- A path whose inner names lie below k. -/
inductive Via (es : List Edg) (k : Nat) : Nat → Nat → Prop
  | refl (a : Nat) : Via es k a a
  | one {e : Edg} (he : e ∈ es) : Via es k e.fr e.to
  | step {e : Edg} {b : Nat} (he : e ∈ es) (hk : e.to < k) (h : Via es k e.to b) : Via es k e.fr b
theorem Via.cut {es : List Edg} {k a b : Nat} (h : Via es (k + 1) a b) : Via es k a b ∨ (Via es k a k ∧ Via es k k b) := by
  induction h with
  | refl => exact .inl (.refl _)
  | one he => exact .inl (.one he)
  | step he hk h ih =>
    rename_i e b
    by_cases hm : e.to < k
    · rcases ih with ih | ⟨ih1, ih2⟩
      · exact .inl (.step he hm ih)
      · exact .inr ⟨.step he hm ih1, ih2⟩
    · have hmk : e.to = k := by omega
      have h1 : Via es k e.fr k := hmk ▸ Via.one he
      rcases ih with ih | ⟨_, ih2⟩
      · rw [hmk] at ih; exact .inr ⟨h1, ih⟩
      · exact .inr ⟨h1, ih2⟩
theorem Path.via {es : List Edg} {K a b : Nat} (hE : EdgesIn K es) (h : Path es a b) : Via es K a b := by
  induction h with
  | refl => exact .refl _
  | step he _ ih => exact .step he (hE _ he).2 ih
theorem edgeR_mono (es : List Edg) : ∀ {n m : Nat}, n ≤ m → ∀ i j, (edgeR es n i).testBit j = true → (edgeR es m i).testBit j = true := by
  intro n m hnm
  induction hnm with
  | refl => intro i j h; exact h
  | step _ ih =>
    intro i j h
    have h1 := ih i j h
    rename_i m _
    rw [edgeR]
    cases hx : es[m]? with
    | none => exact h1
    | some e =>
      simp only [updR]
      by_cases hi : i = e.fr
      · rw [if_pos hi, Nat.testBit_or, Bool.or_eq_true]
        subst hi
        exact .inl h1
      · rw [if_neg hi]; exact h1
theorem edgeR_full {es : List Edg} {e : Edg} (he : e ∈ es) : (edgeR es es.length e.fr).testBit e.to = true := by
  obtain ⟨n, hn⟩ := List.getElem?_of_mem he
  have hlt := (List.getElem?_eq_some_iff.1 hn).1
  refine edgeR_mono es (show n + 1 ≤ es.length by omega) _ _ ?_
  rw [edgeR, hn]
  simp only [updR, if_true, Nat.testBit_or, testBit_pow, decide_true, Bool.or_true]
theorem warR_full {es : List Edg} {K : Nat} (hE : EdgesIn K es) : ∀ k, k ≤ K → ∀ i j, i < K → Via es k i j → (warR K (edgeR es es.length) k i).testBit j = true := by
  intro k
  induction k with
  | zero =>
    intro _ i j hi h
    cases h with
    | refl => exact edgeR_mono es (Nat.zero_le _) _ _ (by simp [edgeR, testBit_pow])
    | one he => exact edgeR_full he
    | step he hk h => omega
  | succ k ih =>
    intro hk i j hi h
    rw [warR]
    rcases h.cut with h | ⟨h1, h2⟩
    · exact warIn_mono (Nat.zero_le _) i j (ih (by omega) i j hi h)
    · exact warIn_full hi (ih (by omega) i k hi h1) (ih (by omega) k j (by omega) h2)
theorem reachB_iff {es : List Edg} {K a b : Nat} (hE : EdgesIn K es) (ha : a < K) : reachB K es a b = true ↔ Path es a b :=
  ⟨fun h => warR_sound (edgeR_sound es es.length) K a b h, fun h => warR_full hE K (Nat.le_refl _) a b ha (h.via hE)⟩
end Go.Proofs.Ytbidpeggdhkahaa
