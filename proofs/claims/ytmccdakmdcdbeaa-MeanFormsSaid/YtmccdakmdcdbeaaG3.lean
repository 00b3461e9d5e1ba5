/-
  G3: gram.names.
-/
import Derived.Test.YtmccdakmdcdbeaaG2
import Derived.Maps.Own
import Derived.Maps.OwnSet
import Derived.Maps.Views
set_option linter.unusedSimpArgs false
set_option linter.unusedVariables false
namespace Go.Proofs.Ytmccdakmdcdbeaa
open Go.RowKit Go.Maps

instance decBA : DecidableEq ByteArray := fun a b => if h : a.data = b.data then isTrue (by cases a; cases b; simp at h; rw [h]) else isFalse (fun e => h (by rw [e]))
instance memDec (s : ByteArray) (l : List ByteArray) : Decidable (s ∈ l) := @List.instDecidableMemOfLawfulBEq _ (@instBEqOfDecidableEq _ decBA) (@instLawfulBEq _ decBA) s l
def namesB (ns : List ByteArray) : Bool := decide (1 ≤ ns.length) && decide (ns.length ≤ 64) && ns.all nameB && decide ns.Nodup
def litOf (s : ByteArray) : Lit := .string s.data.toList
theorem litOf_inj {a b : ByteArray} (h : litOf a = litOf b) : a = b := by
  unfold litOf at h
  injection h with h
  cases a; cases b
  simp at h
  rw [h]
theorem nameLaw : Keyed Try.prog 9 := string_keyed Try.underlying9
theorem zeroBool (w : World) : (zeroValue 4).run Try.prog w = .ok (.bool false) w := by kernel_rfl
theorem keyLit_litOf (s : ByteArray) : WideAt.IsKeyLit (litOf s) := by simp [WideAt.IsKeyLit, litOf]
def seenD (ns : List ByteArray) (k : Nat) : DataW Unit := setOf (.lit (.bool true)) ((ns.take k).map litOf)
theorem seenD_succ {ns : List ByteArray} {k : Nat} {s : ByteArray} (h : ns[k]? = some s) : seenD ns (k + 1) = (seenD ns k).put (litOf s) (.lit (.bool true)) := by
  unfold seenD
  rw [List.take_add_one, h]
  simp [setOf_snoc]
theorem seenD_at (ns : List ByteArray) (s : ByteArray) : ∀ k, k ≤ ns.length → (seenD ns k).atKey (litOf s) (.lit (.bool false)) = .lit (.bool (decide (s ∈ ns.take k))) := by
  intro k
  induction k with
  | zero => intro _; simp [seenD, setOf, DataW.atKey]
  | succ k ih =>
    intro hk
    obtain ⟨x, hx⟩ : ∃ x, ns[k]? = some x := ⟨_, List.getElem?_eq_getElem (by omega)⟩
    have hM : IsMap (seenD ns k) := (tidy_setOf _ _ (by intro l hl; obtain ⟨y, _, rfl⟩ := List.mem_map.1 hl; exact keyLit_litOf _)).isMap
    rw [seenD_succ hx, List.take_add_one, hx]
    by_cases he : s = x
    · subst he
      rw [atKey_put_same hM (keyLit_litOf _)]
      simp
    · rw [atKey_put_other (fun e => he (litOf_inj e)), ih (by omega)]
      simp [he]
theorem take_nodup {ns : List ByteArray} {k : Nat} {s : ByteArray} (h : ns[k]? = some s) (hd : (ns.take k).Nodup) (hs : s ∉ ns.take k) : (ns.take (k + 1)).Nodup := by
  rw [List.take_add_one, h, List.nodup_append]
  refine ⟨hd, by simp, ?_⟩
  intro a ha b hb e
  simp at hb
  subst hb
  subst e
  exact hs ha
theorem not_nodup {ns : List ByteArray} {k : Nat} {s : ByteArray} (h : ns[k]? = some s) (hs : s ∈ ns.take k) : ¬ ns.Nodup := by
  intro hn
  have h1 : (ns.take (k + 1)).Nodup := (List.take_sublist _ _).nodup hn
  rw [List.take_add_one, h, List.nodup_append] at h1
  exact h1.2.2 s hs s (by simp) rfl
def NamesRel (w : World) (ns : List ByteArray) (cnt : Value) (wr : World) : Prop :=
  ∃ k : Nat, cnt = .int .i64 k ∧ k ≤ ns.length ∧ (ns.take k).all nameB = true ∧ (ns.take k).Nodup ∧ wr.ownsMap Try.prog 9 (plainElem (H := Unit) Try.prog 4) w.heap.size k (seenD ns k) ∧ Below w.heap.size w wr
theorem plainElem_bool_inv {P : Program} {e : TypeId} (he : P.underlying e = some .bool) {v : Value} {x : Bool} {ps : List MemPlace} (h : plainElem (H := Unit) P e v = some (.lit (.bool x), ps)) : v = .bool x := by
  unfold plainElem at h
  rw [he] at h
  cases v <;> simp at h
  rw [h.1]
theorem names_look {wr : World} {ns : List ByteArray} {b k : Nat} {s : ByteArray} (h : wr.ownsMap Try.prog 9 (plainElem (H := Unit) Try.prog 4) b k (seenD ns k)) (hs : s.size ≤ 32) (hk : k ≤ ns.length) :
    (Instr.lookup 110 (.map (some b)) (.string s) false).run Try.prog wr = .ok (.bool (decide (s ∈ ns.take k))) wr := by
  obtain ⟨v, ps, hrun, hv⟩ := h.lookup nameLaw Try.underlying110 (zeroBool _) (plainElem_bool Try.underlying4 false) (WideMaps.keyOf_string_mk Try.underlying9 (by unfold maxLen; omega) : keyOf Try.prog 9 (.string s) = some (litOf s))
  rw [show (Lit.string s.data.toList) = litOf s from rfl, seenD_at ns s k hk] at hv
  rw [hrun, plainElem_bool_inv Try.underlying4 hv]

set_option maxRecDepth 100000 in
set_option maxHeartbeats 2000000 in
theorem names_any {w : World} {ns : List ByteArray} {A : Option Addr} {c : Nat} (hC : Rd.str.C w A ns) (hl : ns.length ≤ 9223372036854775807) :
    Calls Try.prog 53 #[.slice A ns.length c] w fun e w' => e = .returned (.bool (namesB ns)) ∧ Below w.heap.size w w' := by
  have hmm := @run_makeMap Try.prog
  by_cases h1 : ns.length < 1
  · have hf : namesB ns = false := by simp [namesB]; omega
    have HF := Lib.hid hf
    have h1' : (ns.length : Int) < 1 := by omega
    clear hf
    go_enter Try.func53, Try.ntmps53
    go_wp2
    go_ret
    exact ⟨ret_bool HF.out.symm, below_refl _⟩
  · have h1' : decide ((ns.length : Int) < 1) = false := by simp; omega
    by_cases h2 : 64 < ns.length
    · have hf : namesB ns = false := by simp [namesB]; omega
      have HF := Lib.hid hf
      have h2' : (64 : Int) < ns.length := by omega
      clear hf
      go_enter Try.func53, Try.ntmps53
      go_wp2
      go_ret
      exact ⟨ret_bool HF.out.symm, below_refl _⟩
    · have h2' : decide ((64 : Int) < ns.length) = false := by simp; omega
      have q1 : 1 ≤ ns.length := by omega
      have q2 : ns.length ≤ 64 := by omega
      have HN := Lib.hid (show namesB ns = (ns.all nameB && decide ns.Nodup) by simp [namesB, q1, q2])
      clear q1 q2
      go_enter Try.func53, Try.ntmps53
      go_wp2_with fail
      go_loopw [17] (fun cnt wr => NamesRel w ns cnt wr) (fun cnt _ => ns.length - (intOf cnt).toNat)
      case atStart => exact ⟨0, rfl, Nat.zero_le _, rfl, List.nodup_nil, World.ownsMap_made _ _ _ _, below_alloc' (below_refl w) _⟩
      case round =>
        clear hmm
        obtain ⟨k, rfl, hk, hall, hnd, hown, hb⟩ := hrel
        have HO := Lib.hid hown
        have HB := Lib.hid hb
        have HA := Lib.hid hall
        have HD := Lib.hid hnd
        clear hown hb hall hnd
        by_cases hlt : k < ns.length
        · obtain ⟨s, hs⟩ : ∃ s, ns[k]? = some s := ⟨_, List.getElem?_eq_getElem hlt⟩
          obtain ⟨ad, eA, q0⟩ := (hC.mono HB.out).one hs
          subst eA
          have hki : (k : Int) < ns.length := by omega
          have HS := Lib.hid hs
          clear hs
          cases hn : nameB s with
          | false =>
            have hf : namesB ns = false := by rw [HN.out, all_bad HS.out hn]; rfl
            have HF := Lib.hid hf
            have HNB := Lib.hid hn
            clear hf hn
            go_wp2_with (go_at_call 65; refine (name_any s _).mono ?_; rintro e w' ⟨rfl, rfl⟩; rw [HNB.out])
            go_ret
            exact ⟨ret_bool HF.out.symm, HB.out⟩
          | true =>
            have hsz : s.size ≤ 32 := by
              simp only [nameB, Bool.and_eq_true, decide_eq_true_eq] at hn
              exact hn.1.1.1.2
            have hlook := names_look HO.out hsz hk
            have HNB := Lib.hid hn
            have HSZ := Lib.hid hsz
            clear hn hsz
            by_cases hm : s ∈ ns.take k
            · have hf : namesB ns = false := by rw [HN.out]; simp [not_nodup HS.out hm]
              rw [decide_eq_true hm] at hlook
              have HF := Lib.hid hf
              clear hf hm
              go_wp2_with (go_at_call 65; refine (name_any s _).mono ?_; rintro e w' ⟨rfl, hww⟩; obtain rfl := hww.symm; rw [HNB.out])
              go_ret
              exact ⟨ret_bool HF.out.symm, HB.out⟩
            · rw [decide_eq_false hm] at hlook
              have HM := Lib.hid hm
              clear hm
              have hkey : keyOf Try.prog 9 (.string s) = some (litOf s) := WideMaps.keyOf_string_mk Try.underlying9 (by have := HSZ.out; unfold maxLen; omega)
              have HK := Lib.hid hkey
              clear hkey
              go_wp2_with (first | (go_at_call 65; refine (name_any s _).mono ?_; rintro e w' ⟨rfl, hww⟩; obtain rfl := hww.symm; rw [HNB.out]) | (at_mapUpdate; refine wpList_mapUpdate_own _ rfl _ _ _ 110 rfl 9 4 nameLaw Try.underlying110 _ w.heap.size k _ rfl HO.out (by unfold maxLen; omega) _ _ _ rfl rfl HK.out _ [] (plainElem_bool Try.underlying4 true) ?_; intro w1 hown1 hgrow1))
              go_roundw
              case rel => exact ⟨k + 1, by go_num, hlt, by rw [all_take HS.out, HA.out, HNB.out]; rfl, take_nodup HS.out HD.out HM.out, by rw [seenD_succ HS.out]; exact hown1, HB.out.grown hgrow1 HB.out.size (fun j hj => by cases hj; exact Nat.le_refl _)⟩
              case measure => simp [intOf]; omega
        · have hke : k = ns.length := by omega
          have hf : namesB ns = true := by
            rw [HN.out]
            have h3 := HA.out
            have h4 := HD.out
            rw [hke, List.take_length] at h3 h4
            simp [h3, h4]
          have HF := Lib.hid hf
          clear hf
          go_wp2
          go_ret
          exact ⟨ret_bool HF.out.symm, HB.out⟩
end Go.Proofs.Ytmccdakmdcdbeaa
