/-
  G3: gram.names.
  G4: gram.May.
-/
import Derived.Test.YtbidpeggdhkahaaG2
import Derived.Maps.Own
import Derived.Maps.OwnSet
import Derived.Maps.Views
set_option linter.unusedSimpArgs false
set_option linter.unusedVariables false
namespace Go.Proofs.Ytbidpeggdhkahaa
open Go.RowKit Go.Maps

instance decBA : DecidableEq ByteArray := fun a b => if h : a.data = b.data then isTrue (by cases a; cases b; simp at h; rw [h]) else isFalse (fun e => h (by rw [e]))
instance memDec (s : ByteArray) (l : List ByteArray) : Decidable (s ∈ l) := @List.instDecidableMemOfLawfulBEq _ (@instBEqOfDecidableEq _ decBA) (@instLawfulBEq _ decBA) s l
def namesB (ns : List ByteArray) : Bool := decide (1 ≤ ns.length) && decide (ns.length ≤ 64) && ns.all nameB && decide ns.Nodup
def litOf (s : ByteArray) : Lit := .string s.data.toList
theorem litOf_inj {a b : ByteArray} (h : litOf a = litOf b) : a = b := by
  unfold litOf at h
  injection h with h
  cases a; cases b
  simp at h
  rw [h]
theorem nameLaw : Keyed Try.prog 9 := string_keyed Try.underlying9
theorem zeroBool (w : World) : (zeroValue 4).run Try.prog w = .ok (.bool false) w := by kernel_rfl
theorem keyLit_litOf (s : ByteArray) : WideAt.IsKeyLit (litOf s) := by simp [WideAt.IsKeyLit, litOf]
def seenD (ns : List ByteArray) (k : Nat) : DataW Unit := setOf (.lit (.bool true)) ((ns.take k).map litOf)
theorem seenD_succ {ns : List ByteArray} {k : Nat} {s : ByteArray} (h : ns[k]? = some s) : seenD ns (k + 1) = (seenD ns k).put (litOf s) (.lit (.bool true)) := by
  unfold seenD
  rw [List.take_add_one, h]
  simp [setOf_snoc]
theorem seenD_at (ns : List ByteArray) (s : ByteArray) : ∀ k, k ≤ ns.length → (seenD ns k).atKey (litOf s) (.lit (.bool false)) = .lit (.bool (decide (s ∈ ns.take k))) := by
  intro k
  induction k with
  | zero => intro _; simp [seenD, setOf, DataW.atKey]
  | succ k ih =>
    intro hk
    obtain ⟨x, hx⟩ : ∃ x, ns[k]? = some x := ⟨_, List.getElem?_eq_getElem (by omega)⟩
    have hM : IsMap (seenD ns k) := (tidy_setOf _ _ (by intro l hl; obtain ⟨y, _, rfl⟩ := List.mem_map.1 hl; exact keyLit_litOf _)).isMap
    rw [seenD_succ hx, List.take_add_one, hx]
    by_cases he : s = x
    · subst he
      rw [atKey_put_same hM (keyLit_litOf _)]
      simp
    · rw [atKey_put_other (fun e => he (litOf_inj e)), ih (by omega)]
      simp [he]
theorem take_nodup {ns : List ByteArray} {k : Nat} {s : ByteArray} (h : ns[k]? = some s) (hd : (ns.take k).Nodup) (hs : s ∉ ns.take k) : (ns.take (k + 1)).Nodup := by
  rw [List.take_add_one, h, List.nodup_append]
  refine ⟨hd, by simp, ?_⟩
  intro a ha b hb e
  simp at hb
  subst hb
  subst e
  exact hs ha
theorem not_nodup {ns : List ByteArray} {k : Nat} {s : ByteArray} (h : ns[k]? = some s) (hs : s ∈ ns.take k) : ¬ ns.Nodup := by
  intro hn
  have h1 : (ns.take (k + 1)).Nodup := (List.take_sublist _ _).nodup hn
  rw [List.take_add_one, h, List.nodup_append] at h1
  exact h1.2.2 s hs s (by simp) rfl
def NamesRel (w : World) (ns : List ByteArray) (cnt : Value) (wr : World) : Prop :=
  ∃ k : Nat, cnt = .int .i64 k ∧ k ≤ ns.length ∧ (ns.take k).all nameB = true ∧ (ns.take k).Nodup ∧ wr.ownsMap Try.prog 9 (plainElem (H := Unit) Try.prog 4) w.heap.size k (seenD ns k) ∧ Below w.heap.size w wr
theorem plainElem_bool_inv {P : Program} {e : TypeId} (he : P.underlying e = some .bool) {v : Value} {x : Bool} {ps : List MemPlace} (h : plainElem (H := Unit) P e v = some (.lit (.bool x), ps)) : v = .bool x := by
  unfold plainElem at h
  rw [he] at h
  cases v <;> simp at h
  rw [h.1]
theorem names_look {wr : World} {ns : List ByteArray} {b k : Nat} {s : ByteArray} (h : wr.ownsMap Try.prog 9 (plainElem (H := Unit) Try.prog 4) b k (seenD ns k)) (hs : s.size ≤ 32) (hk : k ≤ ns.length) :
    (Instr.lookup 136 (.map (some b)) (.string s) false).run Try.prog wr = .ok (.bool (decide (s ∈ ns.take k))) wr := by
  obtain ⟨v, ps, hrun, hv⟩ := h.lookup nameLaw Try.underlying136 (zeroBool _) (plainElem_bool Try.underlying4 false) (WideMaps.keyOf_string_mk Try.underlying9 (by unfold maxLen; omega) : keyOf Try.prog 9 (.string s) = some (litOf s))
  rw [show (Lit.string s.data.toList) = litOf s from rfl, seenD_at ns s k hk] at hv
  rw [hrun, plainElem_bool_inv Try.underlying4 hv]

set_option maxRecDepth 100000 in
set_option maxHeartbeats 2000000 in
theorem names_any {w : World} {ns : List ByteArray} {A : Option Addr} {c : Nat} (hC : Rd.str.C w A ns) (hl : ns.length ≤ 9223372036854775807) :
    Calls Try.prog 53 #[.slice A ns.length c] w fun e w' => e = .returned (.bool (namesB ns)) ∧ Below w.heap.size w w' := by
  have hmm := @run_makeMap Try.prog
  by_cases h1 : ns.length < 1
  · have hf : namesB ns = false := by simp [namesB]; omega
    have HF := Lib.hid hf
    have h1' : (ns.length : Int) < 1 := by omega
    clear hf
    go_enter Try.func53, Try.ntmps53
    go_wp2
    go_ret
    exact ⟨ret_bool HF.out.symm, below_refl _⟩
  · have h1' : decide ((ns.length : Int) < 1) = false := by simp; omega
    by_cases h2 : 64 < ns.length
    · have hf : namesB ns = false := by simp [namesB]; omega
      have HF := Lib.hid hf
      have h2' : (64 : Int) < ns.length := by omega
      clear hf
      go_enter Try.func53, Try.ntmps53
      go_wp2
      go_ret
      exact ⟨ret_bool HF.out.symm, below_refl _⟩
    · have h2' : decide ((64 : Int) < ns.length) = false := by simp; omega
      have q1 : 1 ≤ ns.length := by omega
      have q2 : ns.length ≤ 64 := by omega
      have HN := Lib.hid (show namesB ns = (ns.all nameB && decide ns.Nodup) by simp [namesB, q1, q2])
      clear q1 q2
      go_enter Try.func53, Try.ntmps53
      go_wp2_with fail
      go_loopw [17] (fun cnt wr => NamesRel w ns cnt wr) (fun cnt _ => ns.length - (intOf cnt).toNat)
      case atStart => exact ⟨0, rfl, Nat.zero_le _, rfl, List.nodup_nil, World.ownsMap_made _ _ _ _, below_alloc' (below_refl w) _⟩
      case round =>
        clear hmm
        obtain ⟨k, rfl, hk, hall, hnd, hown, hb⟩ := hrel
        have HO := Lib.hid hown
        have HB := Lib.hid hb
        have HA := Lib.hid hall
        have HD := Lib.hid hnd
        clear hown hb hall hnd
        by_cases hlt : k < ns.length
        · obtain ⟨s, hs⟩ : ∃ s, ns[k]? = some s := ⟨_, List.getElem?_eq_getElem hlt⟩
          obtain ⟨ad, eA, q0⟩ := (hC.mono HB.out).one hs
          subst eA
          have hki : (k : Int) < ns.length := by omega
          have HS := Lib.hid hs
          clear hs
          cases hn : nameB s with
          | false =>
            have hf : namesB ns = false := by rw [HN.out, all_bad HS.out hn]; rfl
            have HF := Lib.hid hf
            have HNB := Lib.hid hn
            clear hf hn
            go_wp2_with (go_at_call 66; refine (name_any s _).mono ?_; rintro e w' ⟨rfl, rfl⟩; rw [HNB.out])
            go_ret
            exact ⟨ret_bool HF.out.symm, HB.out⟩
          | true =>
            have hsz : s.size ≤ 32 := by
              simp only [nameB, Bool.and_eq_true, decide_eq_true_eq] at hn
              exact hn.1.1.1.2
            have hlook := names_look HO.out hsz hk
            have HNB := Lib.hid hn
            have HSZ := Lib.hid hsz
            clear hn hsz
            by_cases hm : s ∈ ns.take k
            · have hf : namesB ns = false := by rw [HN.out]; simp [not_nodup HS.out hm]
              rw [decide_eq_true hm] at hlook
              have HF := Lib.hid hf
              clear hf hm
              go_wp2_with (go_at_call 66; refine (name_any s _).mono ?_; rintro e w' ⟨rfl, hww⟩; obtain rfl := hww.symm; rw [HNB.out])
              go_ret
              exact ⟨ret_bool HF.out.symm, HB.out⟩
            · rw [decide_eq_false hm] at hlook
              have HM := Lib.hid hm
              clear hm
              have hkey : keyOf Try.prog 9 (.string s) = some (litOf s) := WideMaps.keyOf_string_mk Try.underlying9 (by have := HSZ.out; unfold maxLen; omega)
              have HK := Lib.hid hkey
              clear hkey
              go_wp2_with (first | (go_at_call 66; refine (name_any s _).mono ?_; rintro e w' ⟨rfl, hww⟩; obtain rfl := hww.symm; rw [HNB.out]) | (at_mapUpdate; refine wpList_mapUpdate_own _ rfl _ _ _ 136 rfl 9 4 nameLaw Try.underlying136 _ w.heap.size k _ rfl HO.out (by unfold maxLen; omega) _ _ _ rfl rfl HK.out _ [] (plainElem_bool Try.underlying4 true) ?_; intro w1 hown1 hgrow1))
              go_roundw
              case rel => exact ⟨k + 1, by go_num, hlt, by rw [all_take HS.out, HA.out, HNB.out]; rfl, take_nodup HS.out HD.out HM.out, by rw [seenD_succ HS.out]; exact hown1, HB.out.grown hgrow1 HB.out.size (fun j hj => by cases hj; exact Nat.le_refl _)⟩
              case measure => simp [intOf]; omega
        · have hke : k = ns.length := by omega
          have hf : namesB ns = true := by
            rw [HN.out]
            have h3 := HA.out
            have h4 := HD.out
            rw [hke, List.take_length] at h3 h4
            simp [h3, h4]
          have HF := Lib.hid hf
          clear hf
          go_wp2
          go_ret
          exact ⟨ret_bool HF.out.symm, HB.out⟩
end Go.Proofs.Ytbidpeggdhkahaa

set_option linter.unusedSimpArgs false
set_option linter.unusedVariables false
namespace Go.Proofs.Ytbidpeggdhkahaa
open Go.RowKit

def hdAt (rs : List Rul) : Nat → Int
  | 0 => -1
  | k + 1 => match rs[k]? with | some x => x.head | none => 0
def tot (rs : List Rul) : Nat → Nat
  | 0 => 0
  | n + 1 => tot rs n + (match rs[n]? with | some x => sSum x.conj x.conj.length | none => 0)
def stepB (rs : List Rul) (n : Int) (k : Nat) : Bool :=
  match rs[k]? with
  | none => false
  | some x => ruleB x n && decide (hdAt rs k ≤ x.head) && decide (x.head ≤ hdAt rs k + 1) && decide (tot rs (k + 1) ≤ 1024)
def stepsB (rs : List Rul) (n : Int) (m : Nat) : Bool := (List.range m).all (stepB rs n)
/-- May a grammar be? -/
def mayB (G : Gram) : Bool := namesB G.names && decide (0 ≤ G.start) && decide (G.start < G.names.length) && decide (1 ≤ G.rules.length) && decide (G.rules.length ≤ 256) &&
  stepsB G.rules G.names.length G.rules.length && decide (hdAt G.rules 1 = 0) && decide (hdAt G.rules G.rules.length = G.names.length - 1)
theorem stepsB_succ (rs : List Rul) (n : Int) (m : Nat) : stepsB rs n (m + 1) = (stepsB rs n m && stepB rs n m) := by simp [stepsB, List.range_succ]
theorem stepsB_bad {rs : List Rul} {n : Int} {k m : Nat} (h : stepB rs n k = false) (hk : k < m) : stepsB rs n m = false := by
  unfold stepsB
  rw [List.all_eq_false]
  exact ⟨k, List.mem_range.2 hk, by simp [h]⟩
theorem stepsB_hd {rs : List Rul} {n : Int} : ∀ {m : Nat}, stepsB rs n m = true → -1 ≤ hdAt rs m ∧ hdAt rs m < m := by
  intro m
  induction m with
  | zero => intro _; simp [hdAt]
  | succ m ih =>
    intro h
    rw [stepsB_succ, Bool.and_eq_true] at h
    have h1 := ih h.1
    have h2 := h.2
    unfold stepB at h2
    cases hx : rs[m]? with
    | none => rw [hx] at h2; cases h2
    | some x =>
      rw [hx] at h2
      simp only [Bool.and_eq_true, decide_eq_true_eq] at h2
      simp only [hdAt, hx]
      omega
theorem may_no {G : Gram} (h : stepsB G.rules G.names.length G.rules.length = false) : mayB G = false := by simp [mayB, h]
theorem sSum_mono (cs : List Conj) (h : ∀ y ∈ cs, y.seq.length ≤ 64) : ∀ k, sSum cs k ≤ 64 * k := by
  intro k
  induction k with
  | zero => exact Nat.le_refl _
  | succ k ih =>
    unfold sSum
    cases hy : cs[k]? with
    | none => simp only; omega
    | some y => have := h y (List.mem_of_getElem? hy); simp only; omega
theorem sSum_le {x : Rul} {n : Int} (h : ruleB x n = true) : sSum x.conj x.conj.length ≤ 512 := by
  simp only [ruleB, Bool.and_eq_true, decide_eq_true_eq, List.all_eq_true] at h
  have h1 := sSum_mono x.conj (fun y hy => by have := h.2 y hy; simp only [conjB, Bool.and_eq_true, decide_eq_true_eq] at this; exact this.1) x.conj.length
  omega
theorem ad_add0 (a : Addr) : a.add 0 = a := by unfold Addr.add; cases a with | mk b o e => cases e <;> simp
def MayRel (w0 : World) (G : Gram) (head all cnt : Value) (wr : World) : Prop :=
  ∃ k : Nat, cnt = .int .i64 k ∧ k ≤ G.rules.length ∧ head = .int .i64 (hdAt G.rules k) ∧ all = .int .i64 (tot G.rules k) ∧ tot G.rules k ≤ 1024 ∧ stepsB G.rules G.names.length k = true ∧ Below w0.heap.size w0 wr

set_option maxRecDepth 100000 in
set_option maxHeartbeats 4000000 in
theorem may_any {w : World} {G : Gram} {A A' : Option Addr} {c c' : Nat} (n2 : c ≤ 9223372036854775807) (n1 : G.names.length ≤ c) (n3 : Rd.str.C w A G.names) (n4 : G.rules.length ≤ c') (n5 : c' ≤ 9223372036854775807) (n6 : rulRd.C w A' G.rules) :
    Calls Try.prog 42 #[.agg #[.int .i64 G.start, .slice A G.names.length c, .slice A' G.rules.length c']] w fun e w' => e = .returned (.bool (mayB G)) ∧ Below w.heap.size w w' := by
  have hb0 : Below w.heap.size w (w.alloc (Obj.cells #[Value.int .i64 G.start, Value.slice A G.names.length c, Value.slice A' G.rules.length c'] 25)) := below_alloc' (below_refl w) _
  have B0 := heap_alloc_new w (Obj.cells #[Value.int .i64 G.start, Value.slice A G.names.length c, Value.slice A' G.rules.length c'] 25)
  generalize hw0 : w.alloc (Obj.cells #[Value.int .i64 G.start, Value.slice A G.names.length c, Value.slice A' G.rules.length c'] 25) = w0 at hb0 B0
  have x0 : w0.cell? ⟨w.heap.size, 0, none⟩ = some (.int .i64 G.start) := blk_cell B0 0
  have x1 : w0.cell? ⟨w.heap.size, 1, none⟩ = some (.slice A G.names.length c) := blk_cell B0 1
  have x2 : w0.cell? ⟨w.heap.size, 2, none⟩ = some (.slice A' G.rules.length c') := blk_cell B0 2
  have HB := Lib.hid hb0
  have CN := Lib.hid (names_any (w := w0) (c := c) (n3.mono HB.out) (by omega))
  clear B0 hb0
  cases hn : namesB G.names with
  | false =>
    have HF := Lib.hid (show mayB G = false by simp [mayB, hn])
    have HNB := Lib.hid hn
    clear hn
    go_enter Try.func42, Try.ntmps42
    go_wp2_with fail
    try rw [hw0]
    clear hw0
    go_wp2_with (go_at_call 53; refine CN.out.mono ?_; rintro e w1 ⟨rfl, hb1⟩; rw [HNB.out]; have HB1 := Lib.hid hb1; clear hb1)
    go_ret
    exact ⟨ret_bool HF.out.symm, below_then HB.out HB1.out⟩
  | true =>
    have HNB := Lib.hid hn
    have hK : G.names.length ≤ 64 ∧ 1 ≤ G.names.length := by
      simp only [namesB, Bool.and_eq_true, decide_eq_true_eq] at hn
      exact ⟨hn.1.1.2, hn.1.1.1⟩
    have hK1 := hK.1
    have hK2 := hK.2
    clear hn hK
    by_cases bad : G.start < 0 ∨ (G.names.length : Int) ≤ G.start ∨ G.rules.length < 1 ∨ 256 < G.rules.length
    · have HF := Lib.hid (show mayB G = false by
        cases hm : mayB G with
        | false => rfl
        | true =>
          simp only [mayB, Bool.and_eq_true, decide_eq_true_eq] at hm
          omega)
      by_cases a1 : G.start < 0
      · clear bad
        go_enter Try.func42, Try.ntmps42
        go_wp2_with fail
        try rw [hw0]
        clear hw0
        go_wp2_with (go_at_call 53; refine CN.out.mono ?_; rintro e w1 ⟨rfl, hb1⟩; rw [HNB.out]; have z0 := below_cell hb1 x0; have z1 := below_cell hb1 x1; have z2 := below_cell hb1 x2; have HB1 := Lib.hid hb1; clear hb1)
        go_ret
        exact ⟨ret_bool HF.out.symm, below_then HB.out HB1.out⟩
      · have a1d : decide (G.start < 0) = false := by simpa using a1
        by_cases a2 : (G.names.length : Int) ≤ G.start
        · clear bad
          go_enter Try.func42, Try.ntmps42
          go_wp2_with fail
          try rw [hw0]
          clear hw0
          go_wp2_with (go_at_call 53; refine CN.out.mono ?_; rintro e w1 ⟨rfl, hb1⟩; rw [HNB.out]; have z0 := below_cell hb1 x0; have z1 := below_cell hb1 x1; have z2 := below_cell hb1 x2; have HB1 := Lib.hid hb1; clear hb1)
          go_ret
          exact ⟨ret_bool HF.out.symm, below_then HB.out HB1.out⟩
        · have a2d : decide ((G.names.length : Int) ≤ G.start) = false := by simpa using a2
          by_cases a3 : G.rules.length < 1
          · have a3' : (G.rules.length : Int) < 1 := by omega
            clear bad
            go_enter Try.func42, Try.ntmps42
            go_wp2_with fail
            try rw [hw0]
            clear hw0
            go_wp2_with (go_at_call 53; refine CN.out.mono ?_; rintro e w1 ⟨rfl, hb1⟩; rw [HNB.out]; have z0 := below_cell hb1 x0; have z1 := below_cell hb1 x1; have z2 := below_cell hb1 x2; have HB1 := Lib.hid hb1; clear hb1)
            go_ret
            exact ⟨ret_bool HF.out.symm, below_then HB.out HB1.out⟩
          · have a3d : decide ((G.rules.length : Int) < 1) = false := by simp; omega
            have a4 : (256 : Int) < G.rules.length := by omega
            clear bad
            go_enter Try.func42, Try.ntmps42
            go_wp2_with fail
            try rw [hw0]
            clear hw0
            go_wp2_with (go_at_call 53; refine CN.out.mono ?_; rintro e w1 ⟨rfl, hb1⟩; rw [HNB.out]; have z0 := below_cell hb1 x0; have z1 := below_cell hb1 x1; have z2 := below_cell hb1 x2; have HB1 := Lib.hid hb1; clear hb1)
            go_ret
            exact ⟨ret_bool HF.out.symm, below_then HB.out HB1.out⟩
    · have a1 : 0 ≤ G.start := by omega
      have a1d : decide (G.start < 0) = false := by simp; omega
      have a2d : decide ((G.names.length : Int) ≤ G.start) = false := by simp; omega
      have a2 : G.start < G.names.length := by omega
      have a3d : decide ((G.rules.length : Int) < 1) = false := by simp; omega
      have a4d : decide ((256 : Int) < G.rules.length) = false := by simp; omega
      have a5 : G.rules.length ≤ 256 := by omega
      have a6 : 1 ≤ G.rules.length := by omega
      have HM := Lib.hid (show mayB G = (stepsB G.rules G.names.length G.rules.length && decide (hdAt G.rules 1 = 0) && decide (hdAt G.rules G.rules.length = G.names.length - 1)) by simp [mayB, HNB.out, a1, a2, a5, a6])
      clear bad
      go_enter Try.func42, Try.ntmps42
      go_wp2_with fail
      try rw [hw0]
      clear hw0
      go_wp2_with (go_at_call 53; refine CN.out.mono ?_; rintro e w1 ⟨rfl, hb1⟩; rw [HNB.out]; have z0 := below_cell hb1 x0; have z1 := below_cell hb1 x1; have z2 := below_cell hb1 x2; have HB1 := Lib.hid hb1; clear hb1)
      obtain ⟨wb, rfl⟩ : ∃ wb : World, wb = w1 := ⟨_, rfl⟩
      have X0 := Lib.hid z0
      have X1 := Lib.hid z1
      have X2 := Lib.hid z2
      clear z0 z1 z2 x0 x1 x2 CN
      go_loopw [3, 4, 41] (fun head all cnt wr => MayRel wb G head all cnt wr) (fun _ _ cnt _ => G.rules.length - (intOf cnt).toNat)
      case atStart => exact ⟨0, rfl, Nat.zero_le _, rfl, rfl, Nat.zero_le _, rfl, below_refl _⟩
      case round =>
        obtain ⟨k, rfl, hk, rfl, rfl, ht, hst, hb⟩ := hrel
        have HB2 := Lib.hid hb
        have HST := Lib.hid hst
        have hh := stepsB_hd hst
        have hh1 := hh.1
        have hh2 := hh.2
        have z0 := below_cell hb X0.out
        have z1 := below_cell hb X1.out
        have z2 := below_cell hb X2.out
        clear hb hst hh
        by_cases hlt : k < G.rules.length
        · obtain ⟨x, hx⟩ : ∃ x, G.rules[k]? = some x := ⟨_, List.getElem?_eq_getElem hlt⟩
          obtain ⟨ad, A1, c1, eA, -, q0, q1, l3, l4, hCC⟩ := rul_at (((n6.mono HB.out).mono HB1.out).mono HB2.out) hx
          subst eA
          have hki : (k : Int) < G.rules.length := by omega
          have HX := Lib.hid hx
          have CR := Lib.hid (gruled (n := (G.names.length : Int)) q1 hCC (by omega))
          have Q0 := Lib.hid q0
          have HTS := Lib.hid (show tot G.rules (k + 1) = tot G.rules k + sSum x.conj x.conj.length by simp [tot, hx])
          have HHS := Lib.hid (show hdAt G.rules (k + 1) = x.head by simp [hdAt, hx])
          have HSP := Lib.hid (show stepB G.rules G.names.length k = (ruleB x G.names.length && decide (hdAt G.rules k ≤ x.head) && decide (x.head ≤ hdAt G.rules k + 1) && decide (tot G.rules (k + 1) ≤ 1024)) by simp only [stepB, hx])
          clear hx q1 hCC q0
          obtain ⟨hd, ehd⟩ : ∃ hd, hd = hdAt G.rules k := ⟨_, rfl⟩
          rw [← ehd] at hh1 hh2 ⊢
          obtain ⟨tt, ett⟩ : ∃ tt : Nat, tt = tot G.rules k := ⟨_, rfl⟩
          rw [← ett] at ht ⊢
          have EHD := Lib.hid ehd
          have ETT := Lib.hid ett
          clear ehd ett
          cases hr : ruleB x G.names.length with
          | false =>
            have HF := Lib.hid (show mayB G = false from may_no (stepsB_bad (by rw [HSP.out, hr]; rfl) hlt))
            have HRB := Lib.hid (ruleSum_no hr)
            clear hr
            go_wp2_with (go_at_call 54; refine CR.out.mono ?_; rintro e w5 ⟨rfl, hb5⟩; rw [HRB.out]; have HB5 := Lib.hid hb5; clear hb5)
            go_ret
            exact ⟨ret_bool HF.out.symm, below_then (below_then (below_then HB.out HB1.out) HB2.out) HB5.out⟩
          | true =>
            have HRB := Lib.hid (ruleSum_yes hr)
            have hsn := sSum_le hr
            obtain ⟨sn, esn⟩ : ∃ sn : Nat, sn = sSum x.conj x.conj.length := ⟨_, rfl⟩
            rw [← esn] at hsn HRB
            have ESN := Lib.hid esn
            have HR := Lib.hid hr
            clear esn hr
            by_cases b1 : x.head < hd
            · have HF := Lib.hid (show mayB G = false from may_no (stepsB_bad (by rw [HSP.out, ← EHD.out]; simp; omega) hlt))
              go_wp2_with (go_at_call 54; refine CR.out.mono ?_; rintro e w5 ⟨rfl, hb5⟩; rw [HRB.out]; have y0 := below_cell hb5 Q0.out; have HB5 := Lib.hid hb5; clear hb5)
              go_ret
              exact ⟨ret_bool HF.out.symm, below_then (below_then (below_then HB.out HB1.out) HB2.out) HB5.out⟩
            · have b1d : decide (x.head < hd) = false := by simpa using b1
              by_cases b2 : hd + 1 < x.head
              · have HF := Lib.hid (show mayB G = false from may_no (stepsB_bad (by rw [HSP.out, ← EHD.out]; simp; omega) hlt))
                go_wp2_with (go_at_call 54; refine CR.out.mono ?_; rintro e w5 ⟨rfl, hb5⟩; rw [HRB.out]; have y0 := below_cell hb5 Q0.out; have HB5 := Lib.hid hb5; clear hb5)
                go_ret
                exact ⟨ret_bool HF.out.symm, below_then (below_then (below_then HB.out HB1.out) HB2.out) HB5.out⟩
              · have b2d : decide (hd + 1 < x.head) = false := by simpa using b2
                have e1 : IntKind.i64.wrap ((tt : Int) + (sn : Int)) = ((tt + sn : Nat) : Int) := by rw [IntWalk.i64_in _ (by omega)]; omega
                by_cases b3 : 1024 < tt + sn
                · have HF := Lib.hid (show mayB G = false from may_no (stepsB_bad (by rw [HSP.out, HTS.out, ← ETT.out, ← ESN.out]; simp; omega) hlt))
                  have b3' : (1024 : Int) < ((tt + sn : Nat) : Int) := by omega
                  go_wp2_with (go_at_call 54; refine CR.out.mono ?_; rintro e w5 ⟨rfl, hb5⟩; rw [HRB.out]; have y0 := below_cell hb5 Q0.out; have HB5 := Lib.hid hb5; clear hb5)
                  go_ret
                  exact ⟨ret_bool HF.out.symm, below_then (below_then (below_then HB.out HB1.out) HB2.out) HB5.out⟩
                · have b3d : decide ((1024 : Int) < ((tt + sn : Nat) : Int)) = false := by simp; omega
                  have HOK := Lib.hid (show stepB G.rules G.names.length k = true by rw [HSP.out, HTS.out, ← EHD.out, ← ETT.out, ← ESN.out, HR.out]; simp; omega)
                  have hle : tot G.rules (k + 1) ≤ 1024 := by rw [HTS.out, ← ETT.out, ← ESN.out]; omega
                  have HLE := Lib.hid hle
                  clear hle
                  go_wp2_with (go_at_call 54; refine CR.out.mono ?_; rintro e w5 ⟨rfl, hb5⟩; rw [HRB.out]; have y0 := below_cell hb5 Q0.out; have HB5 := Lib.hid hb5; clear hb5)
                  go_roundw
                  case rel => exact ⟨k + 1, by go_num, hlt, by rw [HHS.out], by rw [HTS.out, ← ETT.out, ← ESN.out]; go_num, HLE.out, by rw [stepsB_succ, HST.out, HOK.out]; rfl, below_then HB2.out HB5.out⟩
                  case measure => simp [intOf]; omega
        · obtain rfl : k = G.rules.length := by omega
          obtain ⟨x, hx⟩ : ∃ x, G.rules[0]? = some x := ⟨_, List.getElem?_eq_getElem (by omega)⟩
          obtain ⟨ad, A1, c1, eA, -, q0, q1, l3, l4, hCC⟩ := rul_at (((n6.mono HB.out).mono HB1.out).mono HB2.out) hx
          subst eA
          rw [Nat.zero_mul, show ad.add 0 = ad from ad_add0 ad] at q0
          have HM2 := Lib.hid (show mayB G = (decide (x.head = 0) && decide (hdAt G.rules G.rules.length = G.names.length - 1)) by rw [HM.out, HST.out]; simp [hdAt, hx])
          obtain ⟨hd, ehd⟩ : ∃ hd, hd = hdAt G.rules G.rules.length := ⟨_, rfl⟩
          rw [← ehd] at hh1 hh2 HM2 ⊢
          clear ehd hx q1 hCC
          go_wp2_with fail
          all_goals
            go_ret
            refine ⟨ret_bool ?_, below_then (below_then HB.out HB1.out) HB2.out⟩
            rw [HM2.out, Bool.eq_iff_iff]
            simp
            try omega
end Go.Proofs.Ytbidpeggdhkahaa
