/-
  H1: proofs (certificates) as plain data; how they lie in memory; what a checker says of them. No program in sight.
  He: the tests '==' and '!=' of places and keys (structs of numbers).
  Ih: templelaw0.SameBranchs of what is the same; a branch is itself.
  Ii: ranks from below (what holds has a rank); the names along a conjunct, step by step: plain. No program in sight.
-/
import Derived.Test.YtbidpeggdhkahaaGreatMp
import Derived.Test.YtbidpeggdhkahaaGreatI0
import Derived.Test.YtbidpeggdhkahaaGreatR1
import Derived.Laws.StructEq
import Derived.Test.YtbidpeggdhkahaaGreatIg
import Derived.Test.YtbidpeggdhkahaaGreatM1
import Derived.Test.YtbidpeggdhkahaaGreatI3
set_option linter.unusedSimpArgs false
set_option linter.unusedVariables false
namespace Go.Proofs.YtbidpeggdhkahaaGreat
open Go.RowKit

theorem plc_fields : (Tryz.prog.fieldsOf 57).toList.map (fun f => (f.name == "_", f.type, f.offset)) = [(false, 3, 0), (false, 3, 1), (false, 3, 2)] := by kernel_rfl
theorem plc_held : Tryz.prog.stoodInHeld 57 = false := by kernel_rfl
theorem plc_under : Tryz.prog.underlying 57 = some (.struct (Tryz.prog.fieldsOf 57)) := by kernel_rfl
theorem plc_guard : Tryz.prog.eqGuardType Tryz.prog.depth 57 = false := by kernel_rfl
/-- The test of fields, by their types and places alone. -/
def eqFs (d : Nat) (xs ys : Array Value) : List (Bool × TypeId × Nat) → Sem Bool
  | [] => pure true
  | f :: fs =>
    if f.1 = true then eqFs d xs ys fs else do
      let a ← part f.2.1 xs f.2.2
      let b ← part f.2.1 ys f.2.2
      let r ← Op.equalIn d f.2.1 a b
      if (!r) = true then pure false else eqFs d xs ys fs
theorem eqFields_eq (d : Nat) (xs ys : Array Value) (fs : List Field) : Op.eqFields d xs ys fs = eqFs d xs ys (fs.map fun f => (f.name == "_", f.type, f.offset)) := by
  induction fs with
  | nil => rfl
  | cons f fs ih =>
    simp only [Op.eqFields, List.map_cons, eqFs, ih]
    by_cases h : f.name = "_" <;> simp [h]
theorem partInt (cs : Array Value) (n : Nat) (v : Int) (h : cs[n]? = some (.int .i64 v)) (w : World) : (part 3 cs n).run Tryz.prog w = .ok (.int .i64 v) w := by
  unfold part
  simp [go_sem, h]
theorem eqInt (d : Nat) (a b : Int) (w : World) : (Op.equalIn (d + 1) 3 (.int .i64 a) (.int .i64 b)).run Tryz.prog w = .ok (a == b) w := run_equalIn_int w d 3 .i64 .i64 a b Tryz.underlying3
theorem partPlc (a b x y z u v : Value) (w : World) : (part 57 #[a, b, x, y, z, u, v] 2).run Tryz.prog w = .ok (.agg #[x, y, z]) w := by
  unfold part
  simp [go_sem]
/-- One field more: equal so far. -/
theorem eqFs_int (d : Nat) (xs ys : Array Value) (n : Nat) (a b : Int) (fs : List (Bool × TypeId × Nat)) (ha : xs[n]? = some (.int .i64 a)) (hb : ys[n]? = some (.int .i64 b)) (w : World) :
    (eqFs (d + 1) xs ys ((false, 3, n) :: fs)).run Tryz.prog w = if a = b then (eqFs (d + 1) xs ys fs).run Tryz.prog w else .ok false w := by
  simp only [eqFs, Bool.false_eq_true, if_false, Sem.run_bind]
  rw [partInt _ n a ha]; simp only [Result.andThen_ok]
  rw [partInt _ n b hb]; simp only [Result.andThen_ok]
  rw [eqInt]; simp only [Result.andThen_ok]
  by_cases h : a = b
  · simp [h]
  · simp [h]
theorem eqPlc (d : Nat) (a b : Plc) (w : World) : (Op.equalIn (d + 2) 57 (plV a) (plV b)).run Tryz.prog w = .ok (decide (a = b)) w := by
  unfold plV
  rw [run_equalIn_struct w (d + 1) 57 _ _ plc_under plc_held, eqFields_eq, plc_fields]
  obtain ⟨a1, a2, a3⟩ := a
  obtain ⟨b1, b2, b3⟩ := b
  rw [eqFs_int _ _ _ 0 a1 b1 _ rfl rfl, eqFs_int _ _ _ 1 a2 b2 _ rfl rfl, eqFs_int _ _ _ 2 a3 b3 _ rfl rfl]
  by_cases h1 : a1 = b1 <;> by_cases h2 : a2 = b2 <;> by_cases h3 : a3 = b3 <;> simp [h1, h2, h3, eqFs]
theorem eqKy {T : TypeId} (hf : (Tryz.prog.fieldsOf T).toList.map (fun f => (f.name == "_", f.type, f.offset)) = [(false, 3, 0), (false, 3, 1), (false, 57, 2), (false, 3, 5), (false, 3, 6)]) (hh : Tryz.prog.stoodInHeld T = false)
    (hu : Tryz.prog.underlying T = some (.struct (Tryz.prog.fieldsOf T))) (d : Nat) (a b : Ky) (w : World) : (Op.equalIn (d + 3) T (kyV a) (kyV b)).run Tryz.prog w = .ok (decide (a = b)) w := by
  unfold kyV
  rw [run_equalIn_struct w (d + 2) T _ _ hu hh, eqFields_eq, hf]
  obtain ⟨a1, a2, ap, a6, a7⟩ := a
  obtain ⟨b1, b2, bp, b6, b7⟩ := b
  rw [eqFs_int _ _ _ 0 a1 b1 _ rfl rfl, eqFs_int _ _ _ 1 a2 b2 _ rfl rfl]
  by_cases h1 : a1 = b1
  · by_cases h2 : a2 = b2
    · subst h1
      subst h2
      rw [if_pos rfl, if_pos rfl]
      simp only [eqFs, Bool.false_eq_true, if_false, Sem.run_bind]
      rw [partPlc]; simp only [Result.andThen_ok]
      rw [partPlc]; simp only [Result.andThen_ok]
      have := eqPlc d ap bp w
      unfold plV at this
      rw [this]; simp only [Result.andThen_ok]
      by_cases h3 : ap = bp
      · subst h3
        simp only [decide_true, Bool.not_true, Bool.false_eq_true, if_false, Sem.run_bind]
        rw [partInt _ 5 a6 rfl]; simp only [Result.andThen_ok]
        rw [partInt _ 5 b6 rfl]; simp only [Result.andThen_ok]
        rw [eqInt]; simp only [Result.andThen_ok]
        by_cases h4 : a6 = b6
        · subst h4
          simp only [beq_self_eq_true, Bool.not_true, Bool.false_eq_true, if_false, Sem.run_bind]
          rw [partInt _ 6 a7 rfl]; simp only [Result.andThen_ok]
          rw [partInt _ 6 b7 rfl]; simp only [Result.andThen_ok]
          rw [eqInt]; simp only [Result.andThen_ok]
          by_cases h5 : a7 = b7
          · subst h5; simp
          · simp [h5]
        · simp [h4]
      · simp [h3]
    · simp [h2]
  · simp [h1]
theorem run_plc_eql (a b : Plc) (w : World) : (binOp .eql 57 (plV a) (plV b)).run Tryz.prog w = .ok (.bool (decide (a = b))) w := by
  have := eqPlc 9998 a b w
  unfold plV at this ⊢
  rw [run_eql_struct, this]; rfl
theorem run_plc_neq (a b : Plc) (w : World) : (binOp .neq 57 (plV a) (plV b)).run Tryz.prog w = .ok (.bool (!decide (a = b))) w := by
  have := eqPlc 9998 a b w
  unfold plV at this ⊢
  rw [run_neq_struct, this]; rfl
end Go.Proofs.YtbidpeggdhkahaaGreat

set_option linter.unusedSimpArgs false
set_option linter.unusedVariables false
namespace Go.Proofs.YtbidpeggdhkahaaGreat
open Go.RowKit

def brV (b : Brn) : Value := .agg #[.int .i64 b.name, .int .i64 b.rule, .int .i64 b.i, .int .i64 b.j, .int .i64 b.kids]
theorem br_fields : (Tryz.prog.fieldsOf 44).toList.map (fun f => (f.name == "_", f.type, f.offset)) = [(false, 3, 0), (false, 3, 1), (false, 3, 2), (false, 3, 3), (false, 3, 4)] := by kernel_rfl
theorem br_held : Tryz.prog.stoodInHeld 44 = false := by kernel_rfl
theorem br_under : Tryz.prog.underlying 44 = some (.struct (Tryz.prog.fieldsOf 44)) := by kernel_rfl
theorem br_guard : Tryz.prog.eqGuardType Tryz.prog.depth 44 = false := by kernel_rfl
theorem eqBr (d : Nat) (a : Brn) (w : World) : (Op.equalIn (d + 2) 44 (.agg #[.int .i64 a.name, .int .i64 a.rule, .int .i64 a.i, .int .i64 a.j, .int .i64 a.kids]) (.agg #[.int .i64 a.name, .int .i64 a.rule, .int .i64 a.i, .int .i64 a.j, .int .i64 a.kids])).run Tryz.prog w = .ok true w := by
  rw [run_equalIn_struct w (d + 1) 44 _ _ br_under br_held, eqFields_eq, br_fields]
  rw [eqFs_int _ _ _ 0 a.name a.name _ rfl rfl, eqFs_int _ _ _ 1 a.rule a.rule _ rfl rfl, eqFs_int _ _ _ 2 a.i a.i _ rfl rfl, eqFs_int _ _ _ 3 a.j a.j _ rfl rfl, eqFs_int _ _ _ 4 a.kids a.kids _ rfl rfl]
  simp [eqFs]
theorem run_br_neq (a : Brn) (w : World) : (binOp .neq 44 (.agg #[.int .i64 a.name, .int .i64 a.rule, .int .i64 a.i, .int .i64 a.j, .int .i64 a.kids]) (.agg #[.int .i64 a.name, .int .i64 a.rule, .int .i64 a.i, .int .i64 a.j, .int .i64 a.kids])).run Tryz.prog w = .ok (.bool false) w := by
  have := eqBr 9998 a w
  rw [run_neq_struct, this]; rfl
theorem run_br_eql (a : Brn) (w : World) : (binOp .eql 44 (.agg #[.int .i64 a.name, .int .i64 a.rule, .int .i64 a.i, .int .i64 a.j, .int .i64 a.kids]) (.agg #[.int .i64 a.name, .int .i64 a.rule, .int .i64 a.i, .int .i64 a.j, .int .i64 a.kids])).run Tryz.prog w = .ok (.bool true) w := by
  have := eqBr 9998 a w
  rw [run_eql_struct, this]; rfl
structure BrAt (w : World) (a : Addr) (b : Brn) : Prop where
  c0 : w.cell? a = some (.int .i64 b.name)
  c1 : w.cell? ⟨a.block, a.off + 1, none⟩ = some (.int .i64 b.rule)
  c2 : w.cell? ⟨a.block, a.off + 2, none⟩ = some (.int .i64 b.i)
  c3 : w.cell? ⟨a.block, a.off + 3, none⟩ = some (.int .i64 b.j)
  c4 : w.cell? ⟨a.block, a.off + 4, none⟩ = some (.int .i64 b.kids)
theorem br_at {w : World} {A : Option Addr} {xs : List Brn} (h : brnRd.C w A xs) {i : Nat} {x : Brn} (hx : xs[i]? = some x) : ∃ ad, A = some ad ∧ BrAt w (ad.add (i * 5)) x := by
  obtain ⟨ad, cs, hA, hK, hc⟩ := h i x hx
  have hK : cs = brnCs x := hK
  subst hK
  have h0 := hc 0 _ rfl
  have h1 := hc 1 _ rfl
  have h2 := hc 2 _ rfl
  have h3 := hc 3 _ rfl
  have h4 := hc 4 _ rfl
  rw [show brnRd.sz = 5 from rfl] at h0 h1 h2 h3 h4
  rw [add_off _ _ _ (by omega)] at h1 h2 h3 h4
  exact ⟨ad, hA, h0, h1, h2, h3, h4⟩
def ToNb (w : World) (n : Nat) (cnt : Value) (wr : World) : Prop := ∃ k : Nat, cnt = .int .i64 k ∧ k ≤ n ∧ Below w.heap.size w wr

set_option maxRecDepth 100000 in
set_option maxHeartbeats 4000000 in
theorem same_brs {w : World} {bs : List Brn} {A B : Option Addr} {a b : Nat} (h1 : brnRd.C w A bs) (h2 : brnRd.C w B bs) (hl : bs.length ≤ 9223372036854775807) :
    Calls Tryz.prog 9 #[.slice A bs.length a, .slice B bs.length b] w fun e w' => e = .returned (.bool true) ∧ Below w.heap.size w w' := by
  have H1 := Lib.hid h1
  have H2 := Lib.hid h2
  clear h1 h2
  go_enter Tryz.func9, Tryz.ntmps9
  go_wp2_with fail
  go_loopw [5] (fun cnt wr => ToNb w bs.length cnt wr) (fun cnt _ => bs.length - (intOf cnt).toNat)
  case atStart => exact ⟨0, rfl, Nat.zero_le _, below_refl _⟩
  case round =>
    obtain ⟨k, rfl, hk, hb⟩ := hrel
    have HB := Lib.hid hb
    clear hb
    by_cases hlt : k < bs.length
    · obtain ⟨s, hs⟩ : ∃ s, bs[k]? = some s := ⟨_, List.getElem?_eq_getElem hlt⟩
      obtain ⟨ad, eA, K1⟩ := br_at (H1.out.mono HB.out) hs
      obtain ⟨bd, eB, K2⟩ := br_at (H2.out.mono HB.out) hs
      subst eA eB
      have hki : (k : Int) < bs.length := by omega
      have P0 := Lib.hid K1.c0
      have P1 := Lib.hid K1.c1
      have P2 := Lib.hid K1.c2
      have P3 := Lib.hid K1.c3
      have P4 := Lib.hid K1.c4
      have Q0 := Lib.hid K2.c0
      have Q1 := Lib.hid K2.c1
      have Q2 := Lib.hid K2.c2
      have Q3 := Lib.hid K2.c3
      have Q4 := Lib.hid K2.c4
      have KE := run_br_neq s
      have KG := br_guard
      clear hs K1 K2
      go_wp2_with fail
      refine wp_region_below (by kernel_rfl) (by kernel_rfl) ?_
      repeat (first
        | (refine qv_skip (by rfl) ?_; simp only [Act.put, List.setIfInBounds_toArray, List.set_cons_zero, List.set_cons_succ])
        | (refine qv_val' (by rfl) ?_; apply Exists.intro; refine ⟨fun w5 hC => ?_, ?_⟩; (have qqr0 := below_cell hC P0.out; have qqr1 := below_cell hC P1.out; have qqr2 := below_cell hC P2.out; have qqr3 := below_cell hC P3.out; have qqr4 := below_cell hC P4.out; have qqr5 := below_cell hC Q0.out; have qqr6 := below_cell hC Q1.out; have qqr7 := below_cell hC Q2.out; have qqr8 := below_cell hC Q3.out; have qqr9 := below_cell hC Q4.out; go_simp; rfl); simp only [Act.put, List.setIfInBounds_toArray, List.set_cons_zero, List.set_cons_succ]))
      refine qv_nil ?_
      intro w5 hC
      have HB5 := Lib.hid (below_then HB.out hC)
      clear hC
      go_wp2_with fail
      go_roundw
      case rel => exact ⟨k + 1, by go_num, by omega, HB5.out⟩
      case measure => simp [intOf]; omega
    · have b1 : ¬ ((k : Int) < bs.length) := by omega
      go_wp2_with fail
      go_ret
      exact ⟨rfl, HB.out⟩
end Go.Proofs.YtbidpeggdhkahaaGreat

set_option linter.unusedSimpArgs false
set_option linter.unusedVariables false
namespace Go.Proofs.YtbidpeggdhkahaaGreat
open Go.RowKit

/-- What holds has a rank. -/
structure RkC (R : Ky → Int) (G : Gram) (W : ByteArray) : Prop where
  fin : ∀ (r c : Nat) (x : Rul) (y : Conj) (i : Int), G.rules[r]? = some x → x.conj[c]? = some y → 0 ≤ i → i ≤ W.size → 0 < R (seqKey ⟨r, c, y.seq.length⟩ i i)
  byte : ∀ (r c q : Nat) (x : Rul) (y : Conj) (s : Sym) (i j : Int), G.rules[r]? = some x → x.conj[c]? = some y → y.seq[q]? = some s → s.name < 0 → 0 ≤ i → i < j → j ≤ W.size → s.lo ≤ btz W i → btz W i ≤ s.hi → 0 < R (seqKey ⟨r, c, (q + 1 : Nat)⟩ (i + 1) j) → 0 < R (seqKey ⟨r, c, q⟩ i j)
  split : ∀ (r c q : Nat) (x : Rul) (y : Conj) (s : Sym) (i a j : Int), G.rules[r]? = some x → x.conj[c]? = some y → y.seq[q]? = some s → 0 ≤ s.name → 0 ≤ i → i ≤ a → a ≤ j → j ≤ W.size → 0 < R (nameKey s.name i a) → 0 < R (seqKey ⟨r, c, (q + 1 : Nat)⟩ a j) → 0 < R (seqKey ⟨r, c, q⟩ i j)
  name : ∀ (r : Nat) (x : Rul) (i j : Int), G.rules[r]? = some x → 0 ≤ i → i ≤ j → j ≤ W.size → (∀ (c : Nat) (y : Conj), x.conj[c]? = some y → (decide (0 < R (seqKey ⟨r, c, 0⟩ i j)) != y.neg) = true) → 0 < R (nameKey x.head i j)
theorem rkC {G : Gram} {W : ByteArray} {N : Rk} {P : Nat → Nat → Nat → Int → Int → Int} (M : MayG G) (V : View G.rules G.names.length (fun i => btz W i) W.size N P) : RkC (rankV G W N P) G W := by
  refine ⟨fun r c x y i hx hy i0 i1 => ?_, fun r c q x y s i j hx hy hs hn i0 ij j1 h1 h2 h3 => ?_, fun r c q x y s i a j hx hy hs hn i0 ia aj j1 h1 h2 => ?_, fun r x i j hx i0 ij j1 h => ?_⟩
  · rw [rankV_seq hx hy (Nat.le_refl _) i0 (Int.le_refl _) i1, V.pEnd r x c y i i hx hy i0 (Int.le_refl _) i1, if_pos rfl]
    decide
  · have hq := (List.getElem?_eq_some_iff.1 hs).1
    rw [rankV_seq hx hy hq (by omega) (by omega) j1] at h3
    have h3 : 0 < P r c (q + 1) (i + 1) j := h3
    rw [rankV_seq hx hy (by omega) i0 (by omega) j1, V.pByte r x c y q s i j hx hy hs hn i0 (by omega) j1, if_pos ⟨ij, h1, h2, h3⟩]
    omega
  · have hq := (List.getElem?_eq_some_iff.1 hs).1
    have hsn := symB_lt (M.sym r x c y q s hx hy hs) (by have := M.K1; omega)
    rw [rankV_seq hx hy hq (by omega) (by omega) j1] at h2
    have h2 : 0 < P r c (q + 1) a j := h2
    rw [rankV_name (nm := s.name.toNat) (i := i) (j := a) (by omega) i0 ia (by omega) _ rfl (by simp only [nameKey]; omega) rfl rfl] at h1
    rw [rankV_seq hx hy (by omega) i0 (by omega) j1]
    have hb := V.pName r x c y q s i j hx hy hs hn i0 (by omega) j1
    exact (hb.le (a - i).toNat (by omega) (by rw [show i + ((a - i).toNat : Int) = a by omega]; exact h1) (by rw [show i + ((a - i).toNat : Int) = a by omega]; exact h2)).1
  · have hh := M.head r x hx
    rw [rankV_name (nm := x.head.toNat) (i := i) (j := j) (by omega) i0 ij j1 _ rfl (by simp only [nameKey]; omega) rfl rfl]
    refine (V.nLe r x i j hx (by omega) i0 ij j1 fun c y hc hy => ?_).1
    have := h c y hy
    have e := rankV_seq (N := N) (P := P) (W := W) (q := 0) hx hy (Nat.zero_le _) i0 ij j1
    rw [show ((0 : Nat) : Int) = 0 from rfl] at e
    rw [e] at this
    cases hd : decide (0 < P r c 0 i j) <;> cases hn : y.neg <;> simp_all
section
variable {R : Ky → Int} {G : Gram} {W : ByteArray}
theorem along_end (H : RkOK R G W) {k : Ky} (h : 0 < R k) (hk : k.kind ≠ 0) (hs : symOf G k.plc = none) : k.i = k.j ∧ ∀ n, alongTo R G W n k = [] := by
  rcases seq_pick H h hk with ⟨-, h1, e⟩ | ⟨s, hs', -⟩ | ⟨s, _, hs', -⟩
  · refine ⟨h1, fun n => ?_⟩
    cases n with
    | zero => rfl
    | succ n => simp only [alongTo, e]
  · rw [hs] at hs'; cases hs'
  · rw [hs] at hs'; cases hs'
theorem along_byte (H : RkOK R G W) {k : Ky} {s : Sym} (h : 0 < R k) (hk : k.kind ≠ 0) (hs : symOf G k.plc = some s) (hn : s.name < 0) :
    k.i < k.j ∧ s.lo ≤ btz W k.i ∧ btz W k.i ≤ s.hi ∧ 0 < R (seqKey (onP k.plc) (k.i + 1) k.j) ∧ ∀ n, alongTo R G W (n + 1) k = alongTo R G W n (seqKey (onP k.plc) (k.i + 1) k.j) := by
  rcases seq_pick H h hk with ⟨hs', -⟩ | ⟨s', hs', -, h1, h2, h3, h4, -, e⟩ | ⟨s', _, hs', hn', -⟩
  · rw [hs] at hs'; cases hs'
  · rw [hs] at hs'; injection hs' with hs'; subst hs'
    exact ⟨h1, h2, h3, h4, fun n => by simp only [alongTo, e]⟩
  · rw [hs] at hs'; injection hs' with hs'; subst hs'; omega
theorem along_split (H : RkOK R G W) {k : Ky} {s : Sym} (h : 0 < R k) (hk : k.kind ≠ 0) (hs : symOf G k.plc = some s) (hn : 0 ≤ s.name) :
    ∃ at', k.i ≤ at' ∧ at' ≤ k.j ∧ 0 < R (nameKey s.name k.i at') ∧ 0 < R (seqKey (onP k.plc) at' k.j) ∧ R (nameKey s.name k.i at') < R k ∧ ∀ n, alongTo R G W (n + 1) k = nameKey s.name k.i at' :: alongTo R G W n (seqKey (onP k.plc) at' k.j) := by
  rcases seq_pick H h hk with ⟨hs', -⟩ | ⟨s', hs', hn', -⟩ | ⟨s', at', hs', -, h1, h2, h3, h4, h5, -, e⟩
  · rw [hs] at hs'; cases hs'
  · rw [hs] at hs'; injection hs' with hs'; subst hs'; omega
  · rw [hs] at hs'; injection hs' with hs'; subst hs'
    exact ⟨at', h1, h2, h3, h4, h5, fun n => by simp only [alongTo, e]⟩
end
/-- A grammar without negations is no cycle through one. -/
theorem no_neg {G : Gram} (h : ∀ x ∈ G.rules, ∀ y ∈ x.conj, y.neg = false) : ¬ NegCyc (edgesOf G) := by
  rintro ⟨e, he, h1, -⟩
  obtain ⟨x, hx, y, hy, s, hs, -, rfl⟩ := mem_edgesOf.1 he
  rw [h x hx y hy] at h1
  cases h1
end Go.Proofs.YtbidpeggdhkahaaGreat
