/-
  T1: templeref1.May says yes of each grammar that gram.May says yes of: letter, digit, nameMay, find, symbolMay, ruleMay, May.
  T2: templeref1.ruleMay, templeref1.May: yes of each grammar that may be.
-/
import Derived.Test.YtbidpeggdhkahaaGreatG4
import Derived.Test.YtbidpeggdhkahaaGreatI0
import Derived.Test.YtbidpeggdhkahaaGreatW3
import Derived.Test.YtbidpeggdhkahaaGreatA3
set_option linter.unusedSimpArgs false
set_option linter.unusedVariables false
namespace Go.Proofs.YtbidpeggdhkahaaGreat
open Go.RowKit

set_option maxHeartbeats 1000000 in
theorem rletter_any (c : Int) (w : World) : Calls Tryz.prog 100 #[.int .u8 c] w fun e w' => e = .returned (.bool (letterB c)) ∧ w' = w := by
  go_enter Tryz.func100, Tryz.ntmps100
  go_wp2
  all_goals
    go_ret
    refine ⟨ret_bool ?_, rfl⟩
    rw [Bool.eq_iff_iff]; simp [letterB]; omega
def digitB (c : Int) : Bool := decide (48 ≤ c) && decide (c ≤ 57)
set_option maxHeartbeats 1000000 in
theorem rdigit_any (c : Int) (w : World) : Calls Tryz.prog 101 #[.int .u8 c] w fun e w' => e = .returned (.bool (digitB c)) ∧ w' = w := by
  go_enter Tryz.func101, Tryz.ntmps101
  go_wp2
  all_goals
    go_ret
    refine ⟨ret_bool ?_, rfl⟩
    rw [Bool.eq_iff_iff]; simp [digitB]; omega
def CntRel (w : World) (n : Nat) (cnt : Value) (wr : World) : Prop := ∃ k : Nat, cnt = .int .i64 k ∧ k ≤ n ∧ wr = w
theorem allMore_at {s : ByteArray} {n : Nat} (h : allMore s n = true) {k : Nat} (hk : k < n) : moreB (btz s k) = true := by
  cases hm : moreB (btz s k) with
  | true => rfl
  | false =>
    have := allMore_stop (n := k + 1) (m := n) (by rw [allMore_succ, hm, Bool.and_false]) hk
    rw [h] at this
    cases this
set_option maxHeartbeats 2000000 in
theorem rname_any (s : ByteArray) (w : World) (hs : nameB s = true) : Calls Tryz.prog 85 #[.string s] w fun e w' => e = .returned (.bool true) ∧ w' = w := by
  simp only [nameB, Bool.and_eq_true, decide_eq_true_eq, Bool.not_eq_true'] at hs
  obtain ⟨⟨⟨⟨h0, h1⟩, h2⟩, h3⟩, h4⟩ := hs
  have he' : (s.toList == [115, 116, 97, 114, 116]) = false := h2
  have d0 : decide ((s.size : Int) < 1) = false := by simp; omega
  have d1 : decide ((32 : Int) < s.size) = false := by simp; omega
  have hpos : 0 < s.size := by omega
  have hb0 := btz_at s 0
  have HB0 := Lib.hid (show ∀ h : 0 < s.size, ((s[0]'h).toNat : Int) = btz s 0 from fun h => hb0 h)
  have H3 := Lib.hid h3
  have H4 := Lib.hid h4
  clear hb0 h3 h4
  go_enter Tryz.func85, Tryz.ntmps85
  go_wp2_with (go_at_call 100; rw [HB0.out]; refine (rletter_any (btz s 0) _).mono ?_; rintro e w' ⟨rfl, hw⟩; obtain rfl := hw.symm; rw [H3.out])
  go_loopw [3] (fun cnt wr => CntRel w s.size cnt wr) (fun cnt _ => s.size - (intOf cnt).toNat)
  case atStart => exact ⟨0, rfl, Nat.zero_le _, rfl⟩
  case round =>
    obtain ⟨k, rfl, hk, rfl⟩ := hrel
    by_cases hlt : k < s.size
    · have hbk := Lib.hid (show ∀ h : k < s.size, ((s[k]'h).toNat : Int) = btz s k from fun h => btz_at s k h)
      have hm := allMore_at H4.out hlt
      cases hl : letterB (btz s k) with
      | true =>
        have HL := Lib.hid hl
        clear hl hm
        go_wp2_with (go_at_call 100; rw [hbk.out]; refine (rletter_any (btz s k) _).mono ?_; rintro e w' ⟨rfl, hw⟩; obtain rfl := hw.symm; rw [HL.out])
        go_roundw
        case rel => exact ⟨k + 1, by go_num, hlt, rfl⟩
        case measure => simp [intOf]; omega
      | false =>
        have hd : digitB (btz s k) = true := by
          unfold moreB at hm
          rw [hl] at hm
          exact hm
        have HL := Lib.hid hl
        have HD := Lib.hid hd
        clear hl hm hd
        go_wp2_with (first
          | (go_at_call 100; rw [hbk.out]; refine (rletter_any (btz s k) _).mono ?_; rintro e w' ⟨rfl, hw⟩; obtain rfl := hw.symm; rw [HL.out])
          | (go_at_call 101; rw [hbk.out]; refine (rdigit_any (btz s k) _).mono ?_; rintro e w' ⟨rfl, hw⟩; obtain rfl := hw.symm; rw [HD.out])
          | fail)
        go_roundw
        case rel => exact ⟨k + 1, by go_num, hlt, rfl⟩
        case measure => simp [intOf]; omega
    · have hke : k = s.size := by omega
      subst hke
      go_wp2_with fail
      go_ret
      exact ⟨rfl, rfl⟩

set_option maxHeartbeats 2000000 in
theorem rfind_any {w : World} {A : Option Addr} {c : Nat} {ns : List ByteArray} (n3 : Rd.str.C w A ns) (hl : ns.length ≤ 64) {i : Nat} {s : ByteArray} (hi : ns[i]? = some s) (hnd : ns.Nodup) :
    Calls Tryz.prog 86 #[.slice A ns.length c, .string s] w fun e w' => e = .returned (.int .i64 i) ∧ w' = w := by
  have hil := (List.getElem?_eq_some_iff.1 hi).1
  have N3 := Lib.hid n3
  have HI := Lib.hid hi
  have HND := Lib.hid hnd
  clear n3 hi hnd
  go_enter Tryz.func86, Tryz.ntmps86
  go_wp2_with fail
  go_loopw [5] (fun cnt wr => CntRel w i cnt wr) (fun cnt _ => i - (intOf cnt).toNat)
  case atStart => exact ⟨0, rfl, Nat.zero_le _, rfl⟩
  case round =>
    obtain ⟨k, rfl, hk, rfl⟩ := hrel
    obtain ⟨z, hz⟩ : ∃ z, ns[k]? = some z := ⟨_, List.getElem?_eq_getElem (by omega)⟩
    obtain ⟨ad, eA, q0⟩ := Rd.C.one N3.out hz
    subst eA
    have hki : (k : Int) < ns.length := by omega
    by_cases hlt : k < i
    · have hne : (z.toList == s.toList) = false := by
        cases he : (z.toList == s.toList) with
        | false => rfl
        | true =>
          have e1 : z.toList = s.toList := by simpa using he
          have e2 : z = s := by
            cases z; cases s
            simp only [ByteArray.toList_eq] at e1
            congr 1
            exact Array.toList_inj.1 e1
          rw [e2] at hz
          have h1 := (List.getElem?_eq_some_iff.1 hz)
          have h2 := (List.getElem?_eq_some_iff.1 HI.out)
          obtain ⟨a1, a2⟩ := h1
          obtain ⟨b1, b2⟩ := h2
          exact absurd (a2.trans b2.symm) ((List.pairwise_iff_getElem.1 HND.out) k i a1 b1 hlt)
      clear hz
      go_wp2_with fail
      go_roundw
      case rel => exact ⟨k + 1, by go_num, hlt, rfl⟩
      case measure => simp [intOf]; omega
    · have hke : k = i := by omega
      subst hke
      have e : z = s := by have := HI.out; rw [hz] at this; cases this; rfl
      subst e
      clear hz
      go_wp2_with fail
      go_ret
      exact ⟨rfl, rfl⟩

set_option maxHeartbeats 1000000 in
theorem rsymbol_any (s : Sym) (n : Int) (w : World) : Calls Tryz.prog 102 #[.agg #[.int .i64 s.name, .int .i64 s.lo, .int .i64 s.hi], .int .i64 n] w fun e w' => e = .returned (.bool (symB s n)) ∧ Below w.heap.size w w' := by
  by_cases hn : s.name = -1
  · have hs : symB s n = (decide (0 ≤ s.lo) && decide (s.lo ≤ s.hi) && decide (s.hi ≤ 255)) := by simp [symB, hn]
    have HS := Lib.hid hs
    rw [hn]
    clear hs hn
    go_enter Tryz.func102, Tryz.ntmps102
    go_wp2
    all_goals
      go_ret
      refine ⟨ret_bool ?_, below_alloc' (below_refl w) _⟩
      rw [HS.out, Bool.eq_iff_iff]; simp; omega
  · have hs : symB s n = (decide (0 ≤ s.name) && decide (s.name < n) && decide (s.lo = 0) && decide (s.hi = 0)) := by simp [symB, hn]
    have HS := Lib.hid hs
    have hn' : (s.name == -1) = false := by simpa using hn
    clear hs
    go_enter Tryz.func102, Tryz.ntmps102
    go_wp2
    all_goals
      go_ret
      refine ⟨ret_bool ?_, below_alloc' (below_refl w) _⟩
      rw [HS.out, Bool.eq_iff_iff]; simp; omega
end Go.Proofs.YtbidpeggdhkahaaGreat

set_option linter.unusedSimpArgs false
set_option linter.unusedVariables false
namespace Go.Proofs.YtbidpeggdhkahaaGreat
open Go.RowKit

theorem all_at {α : Type} {l : List α} {p : α → Bool} (h : l.all p = true) {k : Nat} {y : α} (hx : l[k]? = some y) : p y = true := List.all_eq_true.1 h y (List.mem_of_getElem? hx)
def RSumRel (w : World) (x : Rul) (num cnt : Value) (wr : World) : Prop :=
  ∃ k : Nat, cnt = .int .i64 k ∧ k ≤ x.conj.length ∧ num = .int .i64 (sSum x.conj k) ∧ sSum x.conj k ≤ 64 * k ∧ Below w.heap.size w wr
def UpTo (w : World) (n : Nat) (cnt : Value) (wr : World) : Prop := ∃ k : Nat, cnt = .int .i64 k ∧ k ≤ n ∧ Below w.heap.size w wr

set_option maxRecDepth 100000 in
set_option maxHeartbeats 2000000 in
theorem rrule_any {w : World} {x : Rul} {n : Int} {A1 : Option Addr} {c1 : Nat} (hC : conjRd.C w A1 x.conj) (hr : ruleB x n = true) :
    Calls Tryz.prog 87 #[.agg #[.int .i64 x.head, .slice A1 x.conj.length c1], .int .i64 n] w fun e w' => e = .returned (.tuple #[.int .i64 (sSum x.conj x.conj.length), .bool true]) ∧ Below w.heap.size w w' := by
  simp only [ruleB, Bool.and_eq_true, decide_eq_true_eq] at hr
  obtain ⟨⟨h1, h2⟩, h3⟩ := hr
  have d1 : decide ((x.conj.length : Int) < 1) = false := by simp; omega
  have d2 : decide ((8 : Int) < x.conj.length) = false := by simp; omega
  have H3 := Lib.hid h3
  have hb0 : Below w.heap.size w (w.alloc (Obj.cells #[Value.int .i64 x.head, Value.slice A1 x.conj.length c1] 47)) := below_alloc' (below_refl w) _
  have B0 := heap_alloc_new w (Obj.cells #[Value.int .i64 x.head, Value.slice A1 x.conj.length c1] 47)
  have HC := Lib.hid (hC.mono hb0)
  clear h3 hC
  go_enter Tryz.func87, Tryz.ntmps87
  go_wp2_with fail
  obtain ⟨bx, hbx⟩ : ∃ bx, bx = w.heap.size := ⟨_, rfl⟩
  rw [← hbx] at B0 ⊢
  generalize w.alloc (Obj.cells #[Value.int .i64 x.head, Value.slice A1 x.conj.length c1] 47) = w0 at hb0 B0 HC ⊢
  have HB0 := Lib.hid hb0
  have HX := Lib.hid B0
  clear hb0 B0 hbx
  go_loopw [6, 7] (fun num cnt wr => RSumRel w0 x num cnt wr) (fun _ cnt _ => x.conj.length - (intOf cnt).toNat)
  case atStart => exact ⟨0, rfl, Nat.zero_le _, rfl, Nat.le_refl _, below_refl _⟩
  case round =>
    obtain ⟨k, rfl, hk, rfl, hs, hb⟩ := hrel
    have HB := Lib.hid hb
    have z1 : wr.cell? ⟨bx, 1, none⟩ = some (.slice A1 x.conj.length c1) := blk_cell (blk_below HX.out hb) 1
    clear hb
    by_cases hlt : k < x.conj.length
    · obtain ⟨y, hy⟩ : ∃ y, x.conj[k]? = some y := ⟨_, List.getElem?_eq_getElem hlt⟩
      obtain ⟨ad, A2, c2, eA, -, -, q1, l5, l6, hSS⟩ := conj_at (HC.out.mono HB.out) hy
      subst eA
      have hki : (k : Int) < x.conj.length := by omega
      have hcj := all_at H3.out hy
      simp only [conjB, Bool.and_eq_true, decide_eq_true_eq] at hcj
      obtain ⟨h4, h5⟩ := hcj
      have d3 : decide ((64 : Int) < y.seq.length) = false := by simp; omega
      have H5 := Lib.hid h5
      have HSS := Lib.hid hSS
      have HSK := Lib.hid (sSum_succ hy)
      clear hy hSS h5
      go_wp2_with fail
      obtain ⟨wo, rfl⟩ : ∃ wo : World, wo = wr := ⟨_, rfl⟩
      go_loopw [9] (fun cnt wr' => UpTo wo y.seq.length cnt wr') (fun cnt _ => y.seq.length - (intOf cnt).toNat)
      case atStart => exact ⟨0, rfl, Nat.zero_le _, below_refl _⟩
      case round =>
        clear z1 q1
        obtain ⟨q, rfl, hq, hb⟩ := hrel
        have HB2 := Lib.hid hb
        clear hb
        by_cases hltq : q < y.seq.length
        · obtain ⟨s, hsy⟩ : ∃ s, y.seq[q]? = some s := ⟨_, List.getElem?_eq_getElem hltq⟩
          obtain ⟨ad2, eA, -, s0, s1, s2⟩ := sym_at (HSS.out.mono HB2.out) hsy
          subst eA
          have hqi : (q : Int) < y.seq.length := by omega
          have HSB := Lib.hid (all_at H5.out hsy)
          clear hsy
          go_wp2_with (first
            | (go_at_call 102; refine (rsymbol_any s n _).mono ?_; rintro e w5 ⟨rfl, hb5⟩; rw [HSB.out]; have HB5 := Lib.hid hb5; clear hb5)
            | fail)
          go_roundw
          case rel => exact ⟨q + 1, by go_num, by omega, below_trans HB2.out HB5.out⟩
          case measure => simp [intOf]; omega
        · have hqe : q = y.seq.length := by omega
          subst hqe
          have e1 : IntKind.i64.wrap ((sSum x.conj k : Int) + (y.seq.length : Int)) = ((sSum x.conj k + y.seq.length : Nat) : Int) := by rw [IntWalk.i64_in _ (by omega)]; omega
          go_wp2_with fail
          go_roundw
          case rel => exact ⟨k + 1, by go_num, by omega, by rw [HSK.out]; go_num, by rw [HSK.out]; omega, below_trans HB.out HB2.out⟩
          case measure => simp [intOf]; omega
    · have hke : k = x.conj.length := by omega
      subst hke
      go_wp2_with fail
      go_ret2
      exact ⟨rfl, below_trans HB0.out HB.out⟩

def RMayRel (w : World) (G : Gram) (head many cnt : Value) (wr : World) : Prop :=
  ∃ k : Nat, cnt = .int .i64 k ∧ k ≤ G.rules.length ∧ head = .int .i64 (hdAt G.rules k) ∧ many = .int .i64 (tot G.rules k) ∧ tot G.rules k ≤ 1024 ∧ Below w.heap.size w wr
theorem stepsB_to {rs : List Rul} {n : Int} {k m : Nat} (h : stepsB rs n m = true) (hk : k ≤ m) : stepsB rs n k = true := by
  unfold stepsB at h ⊢
  rw [List.all_eq_true] at h ⊢
  intro i hi
  exact h i (List.mem_range.2 (by have := List.mem_range.1 hi; omega))

set_option maxRecDepth 100000 in
set_option maxHeartbeats 4000000 in
theorem rmay_any {w : World} {G : Gram} {A A' : Option Addr} {c c' : Nat} (n3 : Rd.str.C w A G.names) (n6 : rulRd.C w A' G.rules) (hm : mayB G = true) :
    Calls Tryz.prog 60 #[.agg #[.int .i64 G.start, .slice A G.names.length c, .slice A' G.rules.length c']] w fun e w' => e = .returned (.bool true) ∧ Below w.heap.size w w' := by
  have hb0 : Below w.heap.size w (w.alloc (Obj.cells #[Value.int .i64 G.start, Value.slice A G.names.length c, Value.slice A' G.rules.length c'] 25)) := below_alloc' (below_refl w) _
  have B0 := heap_alloc_new w (Obj.cells #[Value.int .i64 G.start, Value.slice A G.names.length c, Value.slice A' G.rules.length c'] 25)
  have N3 := Lib.hid (n3.mono hb0)
  have N6 := Lib.hid (n6.mono hb0)
  clear n3 n6
  have MG := Lib.hid (mayG hm)
  simp only [mayB, namesB, Bool.and_eq_true, decide_eq_true_eq] at hm
  obtain ⟨⟨⟨⟨⟨⟨⟨⟨⟨⟨m1, m2⟩, m3⟩, m4⟩, m5⟩, m6⟩, m7⟩, m8⟩, m9⟩, m10⟩, m11⟩ := hm
  have d1 : decide ((G.names.length : Int) < 1) = false := by simp; omega
  have d2 : decide ((64 : Int) < G.names.length) = false := by simp; omega
  have d3 : decide (G.start < 0) = false := by simp; omega
  have d4 : decide ((G.names.length : Int) ≤ G.start) = false := by simp; omega
  have d5 : decide ((G.rules.length : Int) < 1) = false := by simp; omega
  have d6 : decide ((256 : Int) < G.rules.length) = false := by simp; omega
  have M3 := Lib.hid m3
  have M4 := Lib.hid m4
  have M9 := Lib.hid m9
  have M11 := Lib.hid m11
  clear m3 m4 m9 m10 m11
  go_enter Tryz.func60, Tryz.ntmps60
  go_wp2_with fail
  obtain ⟨bx, hbx⟩ : ∃ bx, bx = w.heap.size := ⟨_, rfl⟩
  rw [← hbx] at B0 ⊢
  generalize w.alloc (Obj.cells #[Value.int .i64 G.start, Value.slice A G.names.length c, Value.slice A' G.rules.length c'] 25) = w0 at hb0 B0 N3 N6 ⊢
  have HB0 := Lib.hid hb0
  have HX := Lib.hid B0
  clear hb0 B0 hbx d1 d2 d3 d4 d5 d6
  go_loopw [3] (fun cnt wr => UpTo w0 G.names.length cnt wr) (fun cnt _ => G.names.length - (intOf cnt).toNat)
  case atStart => exact ⟨0, rfl, Nat.zero_le _, below_refl _⟩
  case round =>
    obtain ⟨k, rfl, hk, hb⟩ := hrel
    have HB := Lib.hid hb
    have z1 : wr.cell? ⟨bx, 1, none⟩ = some (.slice A G.names.length c) := blk_cell (blk_below HX.out hb) 1
    have z2 : wr.cell? ⟨bx, 2, none⟩ = some (.slice A' G.rules.length c') := blk_cell (blk_below HX.out hb) 2
    clear hb
    by_cases hlt : k < G.names.length
    · obtain ⟨s, hsn⟩ : ∃ s, G.names[k]? = some s := ⟨_, List.getElem?_eq_getElem hlt⟩
      obtain ⟨ad, eA, q0⟩ := Rd.C.one (N3.out.mono HB.out) hsn
      subst eA
      have HN3 := Lib.hid (N3.out.mono HB.out)
      have hki : (k : Int) < G.names.length := by omega
      have HSN := Lib.hid hsn
      have HNB := Lib.hid (all_at M3.out hsn)
      clear hsn
      go_wp2_with fail
      go_quiet ((first
        | (go_at_call 85; exact Calls.quiet_of_same (rname_any s _ HNB.out))
        | (go_at_call 86; exact Calls.quiet_of_same (rfind_any (w := _) (by exact HN3.out.mono (pw_below_drewN (below_refl _) _)) (by omega) HSN.out M4.out))))
      go_wp2_with fail
      go_roundw
      case rel => exact ⟨k + 1, by go_num, by omega, pw_below_drewN HB.out _⟩
      case measure => simp [intOf]; omega
    · have hke : k = G.names.length := by omega
      subst hke
      go_wp2_with fail
      clear z1 z2
      go_loopw [4, 5, 6] (fun head many cnt wr' => RMayRel w0 G head many cnt wr') (fun _ _ cnt _ => G.rules.length - (intOf cnt).toNat)
      case atStart => exact ⟨0, rfl, Nat.zero_le _, rfl, rfl, Nat.zero_le _, HB.out⟩
      case round =>
        clear HB
        obtain ⟨r, rfl, hr, rfl, rfl, ht, hb⟩ := hrel
        have HB := Lib.hid hb
        have z1 : wr.cell? ⟨bx, 1, none⟩ = some (.slice A G.names.length c) := blk_cell (blk_below HX.out hb) 1
        have z2 : wr.cell? ⟨bx, 2, none⟩ = some (.slice A' G.rules.length c') := blk_cell (blk_below HX.out hb) 2
        clear hb
        by_cases hltr : r < G.rules.length
        · obtain ⟨x, hx⟩ : ∃ x, G.rules[r]? = some x := ⟨_, List.getElem?_eq_getElem hltr⟩
          obtain ⟨ad, A1, c1, eA, -, q0, q1, l3, l4, hCC⟩ := rul_at (N6.out.mono HB.out) hx
          subst eA
          have hki : (r : Int) < G.rules.length := by omega
          have hst := stepsB_at M9.out hltr
          have hto := stepsB_hd (stepsB_to M9.out (k := r) (by omega))
          have hto2 := stepsB_hd (stepsB_to M9.out (k := r + 1) (by omega))
          have hall := stepsB_hd M9.out
          simp only [stepB, hx, Bool.and_eq_true, decide_eq_true_eq] at hst
          obtain ⟨⟨⟨b1, b2⟩, b3⟩, b4⟩ := hst
          have hsn := sSum_le b1
          have HTS := Lib.hid (show tot G.rules (r + 1) = tot G.rules r + sSum x.conj x.conj.length by simp [tot, hx])
          have HHS := Lib.hid (show hdAt G.rules (r + 1) = x.head by simp [hdAt, hx])
          rw [HTS.out] at b4
          rw [HHS.out] at hto2
          have hxl := MG.out.head r x hx
          have HRB := Lib.hid b1
          have HCC := Lib.hid hCC
          clear hx hCC
          obtain ⟨hd, ehd⟩ : ∃ hd, hd = hdAt G.rules r := ⟨_, rfl⟩
          rw [← ehd] at b2 b3 hto ⊢
          obtain ⟨tt, ett⟩ : ∃ tt : Nat, tt = tot G.rules r := ⟨_, rfl⟩
          rw [← ett] at ht b4 HTS ⊢
          obtain ⟨sn, esn⟩ : ∃ sn : Nat, sn = sSum x.conj x.conj.length := ⟨_, rfl⟩
          rw [← esn] at hsn b4 HTS
          have ESN := Lib.hid esn
          clear ehd ett esn hall
          have hx0 : 0 ≤ x.head := hxl.1
          have hx1 : x.head < G.names.length := hxl.2
          clear hxl
          have e0 : IntKind.i64.wrap (hd + 1) = hd + 1 := IntWalk.i64_in _ (by omega)
          have g0 : decide (x.head < 0) = false := by simp; omega
          have g1 : decide ((G.names.length : Int) ≤ x.head) = false := by simp; omega
          have e1 : IntKind.i64.wrap ((tt : Int) + (sn : Int)) = ((tt + sn : Nat) : Int) := by rw [IntWalk.i64_in _ (by omega)]; omega
          have CR := Lib.hid (rrule_any (w := wr.drew) (c1 := c1) (HCC.out.mono (below_drew' (below_refl _))) HRB.out)
          rw [← ESN.out] at CR
          by_cases hh : x.head = hd
          · have g2 : (x.head != hd) = false := by simp [hh]
            clear hh
            go_wp2_with fail
            go_region_held3 (fun w' => w'.cell? ⟨bx, 1, none⟩ = some (.slice A G.names.length c) ∧ w'.cell? ⟨bx, 2, none⟩ = some (.slice (some ad) G.rules.length c') ∧ w'.cell? (ad.add (r * 2)) = some (.int .i64 x.head) ∧ w'.cell? ⟨(ad.add (r * 2)).block, (ad.add (r * 2)).off + 1, none⟩ = some (.slice A1 x.conj.length c1)) (first | exact ⟨j1, j2, j3, j4⟩ | exact ⟨z1, z2, q0, q1⟩)
                (first
                  | (go_at_call 87; refine CR.out.mono ?_; rintro e w5 ⟨rfl, hb5⟩; have j1 := below_cell (w := wr.drew) hb5 z1; have j2 := below_cell (w := wr.drew) hb5 z2; have j3 := below_cell (w := wr.drew) hb5 q0; have j4 := below_cell (w := wr.drew) hb5 q1; have HB5 := Lib.hid (below_trans (below_drew' HB.out) hb5); clear hb5)
                  | fail)
            all_goals
              clear z1 z2 q0 q1
              go_wp2_with fail
              go_roundw
              case rel => exact ⟨r + 1, by go_num, by omega, by rw [HHS.out], by rw [HTS.out]; go_num, by rw [HTS.out]; exact b4, HB5.out⟩
              case measure => simp [intOf]; omega
          · have g2 : (x.head != hd) = true := by simp [hh]
            have g3 : (x.head != hd + 1) = false := by simp; omega
            go_wp2_with fail
            go_region_held3 (fun w' => w'.cell? ⟨bx, 1, none⟩ = some (.slice A G.names.length c) ∧ w'.cell? ⟨bx, 2, none⟩ = some (.slice (some ad) G.rules.length c') ∧ w'.cell? (ad.add (r * 2)) = some (.int .i64 x.head) ∧ w'.cell? ⟨(ad.add (r * 2)).block, (ad.add (r * 2)).off + 1, none⟩ = some (.slice A1 x.conj.length c1)) (first | exact ⟨j1, j2, j3, j4⟩ | exact ⟨z1, z2, q0, q1⟩)
                (first
                  | (go_at_call 87; refine CR.out.mono ?_; rintro e w5 ⟨rfl, hb5⟩; have j1 := below_cell (w := wr.drew) hb5 z1; have j2 := below_cell (w := wr.drew) hb5 z2; have j3 := below_cell (w := wr.drew) hb5 q0; have j4 := below_cell (w := wr.drew) hb5 q1; have HB5 := Lib.hid (below_trans (below_drew' HB.out) hb5); clear hb5)
                  | fail)
            all_goals
              clear z1 z2 q0 q1
              go_wp2_with fail
              go_roundw
              case rel => exact ⟨r + 1, by go_num, by omega, by rw [HHS.out], by rw [HTS.out]; go_num, by rw [HTS.out]; exact b4, HB5.out⟩
              case measure => simp [intOf]; omega
        · have hre : r = G.rules.length := by omega
          subst hre
          have e11 := M11.out
          generalize hdAt G.rules G.rules.length = hd at e11 ⊢
          have e2 : IntKind.i64.wrap ((G.names.length : Int) - 1) = (G.names.length : Int) - 1 := IntWalk.i64_in _ (by omega)
          have g9 : (hd == (G.names.length : Int) - 1) = true := by simp; omega
          have g8 : decide ((tot G.rules G.rules.length : Int) ≤ 1024) = true := by simp; omega
          go_wp2_with fail
          go_ret
          exact ⟨rfl, below_trans HB0.out HB.out⟩
end Go.Proofs.YtbidpeggdhkahaaGreat
