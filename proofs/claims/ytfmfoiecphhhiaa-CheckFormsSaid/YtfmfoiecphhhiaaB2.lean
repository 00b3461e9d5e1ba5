/-
  B2: templelaw19.CheckForms answers true.
-/
import Derived.Test.YtfmfoiecphhhiaaB1
set_option linter.unusedSimpArgs false
set_option linter.unusedVariables false
namespace Go.Proofs.Ytfmfoiecphhhiaa
open Go.RowKit

theorem and_small (x : Int) {m : Nat} (hm : m < 9223372036854775808) : 0 ≤ bits .and .i64 x m ∧ bits .and .i64 x m ≤ m := by
  show 0 ≤ IntKind.i64.wrap ((BitVec.ofInt 64 x &&& BitVec.ofInt 64 (m : Int)).toNat : Int) ∧ IntKind.i64.wrap ((BitVec.ofInt 64 x &&& BitVec.ofInt 64 (m : Int)).toNat : Int) ≤ m
  have h2 : (BitVec.ofInt 64 (m : Int)).toNat = m := by rw [BitVec.ofInt_natCast, BitVec.toNat_ofNat]; exact Nat.mod_eq_of_lt (by omega)
  rw [BitVec.toNat_and, h2]
  have h3 : (BitVec.ofInt 64 x).toNat &&& m ≤ m := Nat.and_le_right
  rw [IntWalk.i64_in _ (by omega)]
  omega
def zN : Nod := ⟨false, 0, 0, ⟨0, 0, 0⟩, 0, 0, 0, []⟩
def zNc : List Value := [.bool false, .int .i64 0, .int .i64 0, .int .i64 0, .int .i64 0, .int .i64 0, .int .i64 0, .int .i64 0, .int .i64 0, .slice none 0 0]
theorem infoNod : (Try.prog.info? 37).map (fun i => (i.zero, i.size, i.bytes)) = some (some (.agg zNc.toArray), 10, 96) := by kernel_rfl
def zNodes (S : Nat) : Obj := .cells (madeCells zNc.toArray (S * 10)) 37 (0, 0)
theorem mkn_run (S : Nat) (h : S ≤ 100000) : ∀ w : World, (Instr.makeSlice 38 (.int .i64 (S : Int)) (.int .i64 (S : Int))).run Try.prog w = .ok (.slice (some ⟨w.heap.size, 0, none⟩) S S) (w.alloc (zNodes S)) := by
  intro w
  obtain ⟨i0, hi, hz0, hz1, hz2⟩ := info_parts infoNod
  have h := run_make (P := Try.prog) w 38 37 i0 (.agg zNc.toArray) Try.underlying38 hi hz0 .i64 .i64 (S : Int) (S : Int) (by omega) (by omega) (by rw [hz2]; omega) (by omega)
  rw [h, hz1]
  simp only [Int.toNat_natCast, zNodes]
  rfl
theorem zNodes_C {w : World} {b S : Nat} (h : w.heap[b]? = some (zNodes S)) : nodRd.C w (some ⟨b, 0, none⟩) (List.replicate S zN) := by
  intro i x hx
  have hi : i < S := by have := (List.getElem?_eq_some_iff.1 hx).1; simpa using this
  have hxe : x = zN := List.eq_of_mem_replicate (List.mem_of_getElem? hx)
  subst hxe
  refine ⟨⟨b, 0, none⟩, zNc, rfl, nodRd_mk (x := zN) (by decide) (by decide) (Rd.C.nil _ _ _), fun j v hv => ?_⟩
  have hj : j < 10 := (List.getElem?_eq_some_iff.1 hv).1
  rw [show nodRd.sz = 10 from rfl, add_plain, Nat.zero_add, blk_cell h]
  unfold madeCells
  rw [Array.getElem?_map, Array.getElem?_range]
  rw [if_pos (by omega)]
  simp only [Option.map_some]
  have e1 : (i * 10 + j) % zNc.toArray.size = j := by show (i * 10 + j) % 10 = j; omega
  rw [e1]
  have e2 : zNc.toArray[j]! = v := by
    match j, hj, hv with
    | 0, _, hv => exact Option.some.inj hv
    | 1, _, hv => exact Option.some.inj hv
    | 2, _, hv => exact Option.some.inj hv
    | 3, _, hv => exact Option.some.inj hv
    | 4, _, hv => exact Option.some.inj hv
    | 5, _, hv => exact Option.some.inj hv
    | 6, _, hv => exact Option.some.inj hv
    | 7, _, hv => exact Option.some.inj hv
    | 8, _, hv => exact Option.some.inj hv
    | 9, _, hv => exact Option.some.inj hv
  rw [e2]
def gF : Gram := ⟨0, [⟨#[83]⟩], [⟨0, [⟨false, []⟩]⟩]⟩
def cF : Crt := ⟨0, [zN]⟩
def gR : Gram := ⟨0, [⟨#[83]⟩], [⟨0, [⟨true, [⟨0, 0, 0⟩]⟩]⟩]⟩
theorem gF_may : mayB gF = true := by decide +kernel
theorem gF_edges : edgesOf gF = [] := by decide +kernel
theorem gR_cyc : NegCyc (edgesOf gR) := ⟨⟨0, 0, true⟩, by rw [show edgesOf gR = [⟨0, 0, true⟩] from rfl]; simp, rfl, .refl _⟩
theorem wfZ : KyWf zN.ky := by intro n hn; simp [Nod.ky, zN] at hn; omega
theorem wfF : ∀ x ∈ cF.nodes, KyWf x.ky := by
  intro x hx
  simp [cF] at hx
  subst hx
  exact wfZ
def wantI (K : Nat) : Int := if 32 < K then 1900 else 1901
theorem forms_want {w : World} {K : Nat} (h0 : 0 < K) {e : Ending} {w' : World} (h : CheckPost w gF (zStr K) cF e w') : e = .returned (.tuple #[.bool false, .int .i64 (wantI K)]) ∧ Below w.heap.size w w' := by
  unfold wantI
  by_cases hk : 32 < K
  · rw [if_pos hk]
    exact check_form h (.inr (.inl (by rw [zStr_size]; exact hk)))
  · rw [if_neg hk]
    refine check_no h (asked_of gF_may gF_edges (by rw [zStr_size]; omega) (by decide)) ?_
    unfold takenB rootB
    have e1 : ∀ s, isB cF cF.root s (nameKey gF.start 0 ((zStr K).size : Int)) = false := by
      intro s
      unfold isB
      rw [show ndAt cF cF.root = some zN from rfl]
      simp only
      rw [decide_eq_false (p := zN.ky = _), Bool.and_false]
      rw [zStr_size]
      intro he
      have : (0 : Int) = (K : Int) := congrArg Ky.j he
      omega
    rw [e1, e1]
    simp
def objsF (n : Nat) : List Obj := [
  .cells #[.string ⟨#[83]⟩] 9 (0, 0),
  .cells #[.bool false, .slice none 0 0] 26 (0, 0),
  .cells #[.int .i64 0, .slice (some ⟨n + 1, 0, none⟩) 1 1] 29 (0, 0),
  .cells #[.int .i64 0, .slice (some ⟨n, 0, none⟩) 1 1, .slice (some ⟨n + 2, 0, none⟩) 1 1] 32 (0, 0),
  .cells #[.bool false, .int .i64 0, .int .i64 0, .int .i64 0, .int .i64 0, .int .i64 0, .int .i64 0, .int .i64 0, .int .i64 0, .slice none 0 0] 37 (0, 0),
  .cells #[.int .i64 0, .slice (some ⟨n + 4, 0, none⟩) 1 1] 40 (0, 0)]
def LieF (W : World) (n : Nat) : Prop := ∀ k o, (objsF n)[k]? = some o → W.heap[n + k]? = some o
theorem lieF_start (w : World) : LieF (allocs w (objsF w.heap.size)) w.heap.size := fun k o h => allocs_heap _ _ _ _ h
theorem LieF.below {W W' : World} {n : Nat} (h : LieF W n) (hb : Below W.heap.size W W') : LieF W' n := fun k o ho => blk_below (h k o ho) hb
theorem lieF_G {W : World} {n : Nat} (h : LieF W n) : Rd.str.C W (some ⟨n, 0, none⟩) gF.names ∧ rulRd.C W (some ⟨n + 2, 0, none⟩) gF.rules := by
  have d2 : conjRd.C W (some ⟨n + 1, 0, none⟩) [⟨false, []⟩] := C_blk [[.bool false, .slice none 0 0]] (h 1 _ rfl) rfl ⟨⟨conjRd_mk (x := ⟨false, []⟩) (by decide) (by decide) (Rd.C.nil _ _ _), rfl⟩, trivial⟩
  exact ⟨C_blk [[.string ⟨#[83]⟩]] (h 0 _ rfl) rfl ⟨⟨rfl, rfl⟩, trivial⟩, C_blk [[.int .i64 0, .slice (some ⟨n + 1, 0, none⟩) 1 1]] (h 2 _ rfl) rfl ⟨⟨rulRd_mk (x := ⟨0, [⟨false, []⟩]⟩) (by decide) (by decide) d2, rfl⟩, trivial⟩⟩
theorem lieF_C {W : World} {n : Nat} (h : LieF W n) : nodRd.C W (some ⟨n + 4, 0, none⟩) cF.nodes :=
  C_blk [zNc] (h 4 _ rfl) rfl ⟨⟨nodRd_mk (x := zN) (by decide) (by decide) (Rd.C.nil _ _ _), rfl⟩, trivial⟩
theorem chkF {W : World} {n n2 n4 : Nat} (h : LieF W n) (h2 : n2 = n + 2) (h4 : n4 = n + 4) (s : ByteArray) (hs : s.size < 9223372036854775807) :
    Calls Try.prog 7 #[.agg #[.int .i64 0, .slice (some ⟨n, 0, none⟩) 1 1, .slice (some ⟨n2, 0, none⟩) 1 1], .string s, .agg #[.int .i64 0, .slice (some ⟨n4, 0, none⟩) 1 1]] W (CheckPost W gF s cF) := by
  subst h2 h4
  exact check_any gF s cF (c := 1) (c' := 1) (cn := 1) hs (by decide) (by decide) (lieF_G h).1 (by decide) (by decide) (lieF_G h).2 (by decide) (by decide) (lieF_C h) wfF
theorem chkN {W : World} {n n2 m S : Nat} (h : LieF W n) (h2 : n2 = n + 2) (hm : W.heap[m]? = some (zNodes S)) (hS : S ≤ 100000) (s : ByteArray) (hs : s.size < 9223372036854775807) :
    Calls Try.prog 7 #[.agg #[.int .i64 0, .slice (some ⟨n, 0, none⟩) 1 1, .slice (some ⟨n2, 0, none⟩) 1 1], .string s, .agg #[.int .i64 0, .slice (some ⟨m, 0, none⟩) S S]] W (CheckPost W gF s ⟨0, List.replicate S zN⟩) := by
  subst h2
  have := check_any gF s ⟨0, List.replicate S zN⟩ (c := 1) (c' := 1) (cn := S) hs (by decide) (by decide) (lieF_G h).1 (by decide) (by decide) (lieF_G h).2 (by simp) (by omega) (zNodes_C hm) (fun x hx => by rw [List.eq_of_mem_replicate hx]; exact wfZ)
  simp only [List.length_replicate] at this
  exact this
def objsR (m : Nat) : List Obj := [
  .cells #[.string ⟨#[83]⟩] 9 (0, 0),
  symO [⟨0, 0, 0⟩],
  .cells #[.bool true, .slice (some ⟨m + 1, 0, none⟩) 1 1] 26 (0, 0),
  .cells #[.int .i64 0, .slice (some ⟨m + 2, 0, none⟩) 1 1] 29 (0, 0),
  .cells #[.int .i64 0, .slice (some ⟨m, 0, none⟩) 1 1, .slice (some ⟨m + 3, 0, none⟩) 1 1] 32 (0, 0)]
theorem lieR_G (w : World) : Rd.str.C (allocs w (objsR w.heap.size)) (some ⟨w.heap.size, 0, none⟩) gR.names ∧ rulRd.C (allocs w (objsR w.heap.size)) (some ⟨w.heap.size + 3, 0, none⟩) gR.rules := by
  have H : ∀ k o, (objsR w.heap.size)[k]? = some o → (allocs w (objsR w.heap.size)).heap[w.heap.size + k]? = some o := fun k o h => allocs_heap _ _ _ _ h
  have c1 := symO_C (H 1 _ rfl)
  have d2 : conjRd.C (allocs w (objsR w.heap.size)) (some ⟨w.heap.size + 2, 0, none⟩) [⟨true, [⟨0, 0, 0⟩]⟩] := C_blk [[.bool true, .slice (some ⟨w.heap.size + 1, 0, none⟩) 1 1]] (H 2 _ rfl) rfl ⟨⟨conjRd_mk (x := ⟨true, [⟨0, 0, 0⟩]⟩) (by decide) (by decide) c1, rfl⟩, trivial⟩
  exact ⟨C_blk [[.string ⟨#[83]⟩]] (H 0 _ rfl) rfl ⟨⟨rfl, rfl⟩, trivial⟩, C_blk [[.int .i64 0, .slice (some ⟨w.heap.size + 2, 0, none⟩) 1 1]] (H 3 _ rfl) rfl ⟨⟨rulRd_mk (x := ⟨0, [⟨true, [⟨0, 0, 0⟩]⟩]⟩) (by decide) (by decide) d2, rfl⟩, trivial⟩⟩

theorem chkR {W : World} {m m3 n4 : Nat} (h : Rd.str.C W (some ⟨m, 0, none⟩) gR.names ∧ rulRd.C W (some ⟨m3, 0, none⟩) gR.rules) (hc : nodRd.C W (some ⟨n4, 0, none⟩) cF.nodes) (s : ByteArray) (hs : s.size < 9223372036854775807) :
    Calls Try.prog 7 #[.agg #[.int .i64 0, .slice (some ⟨m, 0, none⟩) 1 1, .slice (some ⟨m3, 0, none⟩) 1 1], .string s, .agg #[.int .i64 0, .slice (some ⟨n4, 0, none⟩) 1 1]] W (CheckPost W gR s cF) :=
  check_any gR s cF (c := 1) (c' := 1) (cn := 1) hs (by decide) (by decide) h.1 (by decide) (by decide) h.2 (by decide) (by decide) hc wfF
/-- Where the ways through an open order meet again. -/
def CutF (w : World) (n : Nat) (v : Int) (s8 s9 : Value) (wx : World) : Prop := s8 = .bool false ∧ s9 = .int .i64 v ∧ LieF wx n ∧ Below w.heap.size w wx

set_option maxRecDepth 100000 in
set_option maxHeartbeats 8000000 in
theorem forms_any (w : World) (size many : Int) : Calls Try.prog 3 #[.int .i64 size, .int .i64 many] w fun e w' => e = .returned (.bool true) ∧ Below w.heap.size w w' := by
  obtain ⟨K, hK, hK0, hK1⟩ : ∃ K : Nat, wrap64 (31 + bits BinOp.and .i64 size 3) = (K : Int) ∧ 31 ≤ K ∧ K ≤ 34 := by
    obtain ⟨h0, h1⟩ := and_small size (m := 3) (by decide)
    simp only [Int.cast_ofNat_Int] at h0 h1
    refine ⟨31 + (bits BinOp.and .i64 size 3).toNat, ?_, by omega, by omega⟩
    rw [show wrap64 (31 + bits BinOp.and .i64 size 3) = 31 + bits BinOp.and .i64 size 3 by unfold wrap64; omega]
    omega
  obtain ⟨S, hS, hS0, hS1⟩ : ∃ S : Nat, wrap64 (65537 + bits BinOp.and .i64 many 7) = (S : Int) ∧ 65537 ≤ S ∧ S ≤ 65544 := by
    obtain ⟨h0, h1⟩ := and_small many (m := 7) (by decide)
    simp only [Int.cast_ofNat_Int] at h0 h1
    refine ⟨65537 + (bits BinOp.and .i64 many 7).toNat, ?_, by omega, by omega⟩
    rw [show wrap64 (65537 + bits BinOp.and .i64 many 7) = 65537 + bits BinOp.and .i64 many 7 by unfold wrap64; omega]
    omega
  have HK := Lib.hid hK
  have HS := Lib.hid hS
  have HSI := Lib.hid (show IntKind.i64.wrap (65537 + bits BinOp.and .i64 many 7) = (S : Int) by
    obtain ⟨h0, h1⟩ := and_small many (m := 7) (by decide)
    simp only [Int.cast_ofNat_Int] at h0 h1
    rw [← hS, IntWalk.i64_in _ (by omega)]
    unfold wrap64; omega)
  clear hK hS
  go_enter Try.func3, Try.ntmps3
  go_wp2_with (first | (go_at_call 6; refine (awake_any _).mono ?_; rintro e w1 ⟨rfl, hb1⟩; have HB1 := Lib.hid hb1; clear hb1) | fail)
  rw [HK.out]
  change Code.wp _ _ _ _ (allocs w1 (objsF w1.heap.size))
  have HL := Lib.hid (lieF_start w1)
  have hb0 : Below w1.heap.size w1 (allocs w1 (objsF w1.heap.size)) := allocs_below _ (below_refl w1)
  have HB0 := Lib.hid (below_trans HB1.out hb0)
  generalize allocs w1 (objsF w1.heap.size) = w0 at HL HB0 hb0 ⊢
  generalize h5 : w1.heap.size + 1 + 1 + 1 + 1 + 1 = n5
  generalize h4 : w1.heap.size + 1 + 1 + 1 + 1 = n4
  generalize h3 : w1.heap.size + 1 + 1 + 1 = n3
  generalize h2 : w1.heap.size + 1 + 1 = n2
  have K5 := Lib.hid (show n5 = w1.heap.size + 5 by omega)
  have K4 := Lib.hid (show n4 = w1.heap.size + 4 by omega)
  have K3 := Lib.hid (show n3 = w1.heap.size + 3 by omega)
  have K2 := Lib.hid (show n2 = w1.heap.size + 2 by omega)
  clear h5 h4 h3 h2 hb0
  go_cut [8, 9] (fun s8 s9 wx => CutF w w1.heap.size (wantI K) s8 s9 wx)
  case first =>
    have z0 : w0.cell? ⟨n3, 0, none⟩ = some (.int .i64 0) := by rw [K3.out]; exact blk_cell (HL.out 3 _ rfl) 0
    have z1 : w0.cell? ⟨n3, 1, none⟩ = some (.slice (some ⟨w1.heap.size, 0, none⟩) 1 1) := by rw [K3.out]; exact blk_cell (HL.out 3 _ rfl) 1
    have z2 : w0.cell? ⟨n3, 2, none⟩ = some (.slice (some ⟨n2, 0, none⟩) 1 1) := by rw [K3.out, K2.out]; exact blk_cell (HL.out 3 _ rfl) 2
    have y0 : w0.cell? ⟨n5, 0, none⟩ = some (.int .i64 0) := by rw [K5.out]; exact blk_cell (HL.out 5 _ rfl) 0
    have y1 : w0.cell? ⟨n5, 1, none⟩ = some (.slice (some ⟨n4, 0, none⟩) 1 1) := by rw [K5.out, K4.out]; exact blk_cell (HL.out 5 _ rfl) 1
    have l3 : n3 < w0.heap.size := by rw [K3.out]; exact blk_lt (HL.out 3 _ rfl)
    have l5 : n5 < w0.heap.size := by rw [K5.out]; exact blk_lt (HL.out 5 _ rfl)
    have hmk := mkb_run K (by omega)
    have hcv : ∀ W : World, (convert 44 9 (.slice (some ⟨W.heap.size, 0, none⟩) K K)).run Try.prog (W.alloc (zObj K)) = .ok (.string (zStr K)) (W.alloc (zObj K)) := fun W => conv_run (heap_alloc_new W _)
    have hcv2 : ∀ W : World, (convert 44 9 (.slice (some ⟨W.heap.size, 0, none⟩) K K)).run Try.prog (W.alloc (zObj K)).drew = .ok (.string (zStr K)) (W.alloc (zObj K)).drew := fun W => conv_run (w := (W.alloc (zObj K)).drew) (heap_alloc_new W _)
    go_region_with (first
      | (go_at_call 7; refine ((chkF (HL.out.below (by repeat (first | exact below_refl _ | apply below_alloc' | apply below_drew'))) K2.out K4.out (zStr K) (by rw [zStr_size]; omega)).mono fun e w' h => forms_want (by omega) h).mono ?_; rintro e w2 ⟨rfl, hb2⟩; have HL2 := Lib.hid ((HL.out.below (by repeat (first | exact below_refl _ | apply below_alloc' | apply below_drew'))).below hb2); have HB2 := Lib.hid (below_then (by repeat (first | exact HB0.out | apply below_alloc' | apply below_drew')) hb2); clear hb2)
      | fail)
    all_goals
      go_wp2_with fail
      go_meet
      exact ⟨rfl, rfl, HL2.out, HB2.out⟩
  case rest =>
    obtain ⟨rfl, rfl, hL2, hB2⟩ := hcut
    have HL2 := Lib.hid hL2
    have HB2 := Lib.hid hB2
    clear hL2 hB2 HL HB0
    obtain ⟨w2, hw2⟩ : ∃ w2, w2 = wc := ⟨_, rfl⟩
    rw [← hw2] at HL2 HB2 ⊢
    clear hw2 wc
    go_wp2_with fail
    go_cut [10, 11] (fun s8 s9 wx => CutF w w1.heap.size 1900 s8 s9 wx)
    case first =>
      have z0 : w2.cell? ⟨n3, 0, none⟩ = some (.int .i64 0) := by rw [K3.out]; exact blk_cell (HL2.out 3 _ rfl) 0
      have z1 : w2.cell? ⟨n3, 1, none⟩ = some (.slice (some ⟨w1.heap.size, 0, none⟩) 1 1) := by rw [K3.out]; exact blk_cell (HL2.out 3 _ rfl) 1
      have z2 : w2.cell? ⟨n3, 2, none⟩ = some (.slice (some ⟨n2, 0, none⟩) 1 1) := by rw [K3.out, K2.out]; exact blk_cell (HL2.out 3 _ rfl) 2
      have y0 : w2.cell? ⟨n5, 0, none⟩ = some (.int .i64 0) := by rw [K5.out]; exact blk_cell (HL2.out 5 _ rfl) 0
      have y1 : w2.cell? ⟨n5, 1, none⟩ = some (.slice (some ⟨n4, 0, none⟩) 1 1) := by rw [K5.out, K4.out]; exact blk_cell (HL2.out 5 _ rfl) 1
      have l3 : n3 < w2.heap.size := by rw [K3.out]; exact blk_lt (HL2.out 3 _ rfl)
      have l5 : n5 < w2.heap.size := by rw [K5.out]; exact blk_lt (HL2.out 5 _ rfl)
      have hmk := mkn_run S (by omega)
      have hsw : IntKind.i64.wrap (65537 + bits BinOp.and .i64 many 7) = (S : Int) := HSI.out
      go_region_with (first
        | (go_at_call 7; refine ((chkN (HL2.out.below (by repeat (first | exact below_refl _ | apply below_alloc' | apply below_drew'))) K2.out (by first | exact heap_alloc_new _ _) (by omega) ⟨#[]⟩ (by decide)).mono fun e w' h => check_form h (.inr (.inr (by simp only [List.length_replicate]; omega)))).mono ?_; rintro e w3 ⟨rfl, hb3⟩; have HL3 := Lib.hid ((HL2.out.below (by repeat (first | exact below_refl _ | apply below_alloc' | apply below_drew'))).below hb3); have HB3 := Lib.hid (below_then (by repeat (first | exact HB2.out | apply below_alloc' | apply below_drew')) hb3); clear hb3)
        | fail)
      all_goals
        go_wp2_with fail
        go_meet
        exact ⟨rfl, rfl, HL3.out, HB3.out⟩
    case rest =>
      obtain ⟨rfl, rfl, hL3, hB3⟩ := hcut
      have HL3 := Lib.hid hL3
      have HB3 := Lib.hid hB3
      clear hL3 hB3 HL2 HB2
      obtain ⟨w3, hw3⟩ : ∃ w3, w3 = wc := ⟨_, rfl⟩
      rw [← hw3] at HL3 HB3 ⊢
      clear hw3 wc
      have z0 : w3.cell? ⟨n3, 0, none⟩ = some (.int .i64 0) := by rw [K3.out]; exact blk_cell (HL3.out 3 _ rfl) 0
      have z1 : w3.cell? ⟨n3, 1, none⟩ = some (.slice (some ⟨w1.heap.size, 0, none⟩) 1 1) := by rw [K3.out]; exact blk_cell (HL3.out 3 _ rfl) 1
      have z2 : w3.cell? ⟨n3, 2, none⟩ = some (.slice (some ⟨n2, 0, none⟩) 1 1) := by rw [K3.out, K2.out]; exact blk_cell (HL3.out 3 _ rfl) 2
      have y0 : w3.cell? ⟨n5, 0, none⟩ = some (.int .i64 0) := by rw [K5.out]; exact blk_cell (HL3.out 5 _ rfl) 0
      have y1 : w3.cell? ⟨n5, 1, none⟩ = some (.slice (some ⟨n4, 0, none⟩) 1 1) := by rw [K5.out, K4.out]; exact blk_cell (HL3.out 5 _ rfl) 1
      have hbo : ∀ o1 o2 o3 o4 o5, Below w3.heap.size w3 (((((w3.alloc o1).alloc o2).alloc o3).alloc o4).alloc o5) := fun o1 o2 o3 o4 o5 => below_alloc' (below_alloc' (below_alloc' (below_alloc' (below_alloc' (below_refl w3) o1) o2) o3) o4) o5
      have y0 : ∀ o1 o2 o3 o4 o5, (((((w3.alloc o1).alloc o2).alloc o3).alloc o4).alloc o5).cell? ⟨n5, 0, none⟩ = some (.int .i64 0) := fun o1 o2 o3 o4 o5 => below_cell (hbo o1 o2 o3 o4 o5) y0
      have y1 : ∀ o1 o2 o3 o4 o5, (((((w3.alloc o1).alloc o2).alloc o3).alloc o4).alloc o5).cell? ⟨n5, 1, none⟩ = some (.slice (some ⟨n4, 0, none⟩) 1 1) := fun o1 o2 o3 o4 o5 => below_cell (hbo o1 o2 o3 o4 o5) y1
      clear hbo
      go_wp2_with fail
      change Calls _ _ _ (allocs w3 (objsR w3.heap.size)) _
      have hb4 : Below w3.heap.size w3 (allocs w3 (objsR w3.heap.size)) := allocs_below _ (below_refl w3)
      have HR := Lib.hid (lieR_G w3)
      have HC4 := Lib.hid ((lieF_C HL3.out).mono hb4)
      have HB4 := Lib.hid (below_trans HB3.out hb4)
      clear hb4 z0 z1 z2 y0 y1
      generalize allocs w3 (objsR w3.heap.size) = w4 at HR HC4 HB4 ⊢
      rw [← K4.out] at HC4
      refine ((chkR HR.out HC4.out ⟨#[]⟩ (by decide)).mono fun e w' h => check_form h (.inl (.inr gR_cyc))).mono ?_
      rintro e w5 ⟨rfl, hb5⟩
      have HB5 := Lib.hid (below_trans HB4.out hb5)
      clear hb5
      by_cases hk : 32 < K
      · have HWI := Lib.hid (show wantI K = 1900 from if_pos hk)
        rw [HWI.out]
        have d1 : decide ((32 : Int) < (K : Int)) = true := decide_eq_true (by omega)
        clear hk
        go_wp2_with (first
          | (go_at_call 8; refine (num_any _ _).mono ?_; rintro e w' ⟨rfl, rfl⟩)
          | fail)
        go_ret
        exact ⟨rfl, HB5.out⟩
      · have HWI := Lib.hid (show wantI K = 1901 from if_neg hk)
        rw [HWI.out]
        have d1 : decide ((32 : Int) < (K : Int)) = false := decide_eq_false (by omega)
        clear hk
        go_wp2_with (first
          | (go_at_call 8; refine (num_any _ _).mono ?_; rintro e w' ⟨rfl, rfl⟩)
          | fail)
        go_ret
        exact ⟨rfl, HB5.out⟩
end Go.Proofs.Ytfmfoiecphhhiaa
