/-
  F0: the contract of slices.SortFunc laid at this dump (printed once by the shelf's tool in plain words; the numbers turned into names).
  F1: how edges are ordered: cmp.Compare, cmp.Or at numbers, deps.bit, deps.row.
-/
import Derived.Shelf.SlSortCmp.WholeK
import Derived.Ground.SlsfProg
import Derived.Test.YtbknkhcdfjiehaaGreatProg
import Derived.Test.YtbknkhcdfjiehaaGreatW3
import Derived.Deep.RegionHeld3
set_option linter.unusedSimpArgs false
set_option linter.unusedVariables false
namespace Go.Proofs
open Go.Shelf
def YtbknkhcdfjiehaaGreat.sortEdge_ren : Go.Shelf.Ren := ⟨fun | 6 => 73 | 15 => 89 | 14 => 88 | 28 => 102 | 29 => 103 | 20 => 94 | 21 => 95 | 22 => 96 | 23 => 97 | 24 => 98 | 25 => 99 | 26 => 100 | 27 => 101 | 46 => 105 | 47 => 106 | 48 => 107 | 49 => 108 | 50 => 109 | 57 => 112 | n => n, fun | 22 => 78 | 24 => 83 | 25 => 105 | 3 => 3 | 39 => 136 | 0 => 0 | 53 => 146 | 55 => 123 | 4 => 4 | 46 => 140 | 45 => 139 | 50 => 97 | 5 => 5 | 9 => 9 | 66 => 150 | 70 => 154 | 76 => 160 | 77 => 161 | n => n, fun | n => n⟩
theorem YtbknkhcdfjiehaaGreat.sortEdge : Go.Proofs.SlLaysF0.n6 Tryz.prog YtbknkhcdfjiehaaGreat.sortEdge_ren := {
  mixed := by kernel_rfl
  f6 := ⟨Tryz.f73.name, by decide, Tryz.func73.trans (congrArg some (by kernel_rfl))⟩
  f14 := ⟨Tryz.f88.name, by decide, Tryz.func88.trans (congrArg some (by kernel_rfl))⟩
  f15 := Tryz.func89.trans (congrArg some (by kernel_rfl))
  f20 := ⟨Tryz.f94.name, by decide, Tryz.func94.trans (congrArg some (by kernel_rfl))⟩
  f21 := ⟨Tryz.f95.name, by decide, Tryz.func95.trans (congrArg some (by kernel_rfl))⟩
  f22 := ⟨Tryz.f96.name, by decide, Tryz.func96.trans (congrArg some (by kernel_rfl))⟩
  f23 := ⟨Tryz.f97.name, by decide, Tryz.func97.trans (congrArg some (by kernel_rfl))⟩
  f24 := ⟨Tryz.f98.name, by decide, Tryz.func98.trans (congrArg some (by kernel_rfl))⟩
  f25 := ⟨Tryz.f99.name, by decide, Tryz.func99.trans (congrArg some (by kernel_rfl))⟩
  f26 := ⟨Tryz.f100.name, by decide, Tryz.func100.trans (congrArg some (by kernel_rfl))⟩
  f27 := ⟨Tryz.f101.name, by decide, Tryz.func101.trans (congrArg some (by kernel_rfl))⟩
  f28 := Tryz.func102.trans (congrArg some (by kernel_rfl))
  f29 := Tryz.func103.trans (congrArg some (by kernel_rfl))
  f46 := ⟨Tryz.f105.name, by decide, Tryz.func105.trans (congrArg some (by kernel_rfl))⟩
  f47 := Tryz.func106.trans (congrArg some (by kernel_rfl))
  f48 := Tryz.func107.trans (congrArg some (by kernel_rfl))
  f49 := ⟨Tryz.f108.name, by decide, Tryz.func108.trans (congrArg some (by kernel_rfl))⟩
  f50 := ⟨Tryz.f109.name, by decide, Tryz.func109.trans (congrArg some (by kernel_rfl))⟩
  f57 := ⟨Tryz.f112.name, by decide, Tryz.func112.trans (congrArg some (by kernel_rfl))⟩
  t0 := Tryz.underlying0
  a0 := Tryz.isAgg0
  z0 := Tryz.sizeOf0
  v0 := Tryz.zeroValue0
  t3 := Tryz.underlying3
  a3 := Tryz.isAgg3
  z3 := Tryz.sizeOf3
  v3 := Tryz.zeroValue3
  t4 := Tryz.underlying4
  a4 := Tryz.isAgg4
  z4 := Tryz.sizeOf4
  v4 := Tryz.zeroValue4
  t5 := Tryz.underlying5
  a5 := Tryz.isAgg5
  z5 := Tryz.sizeOf5
  v5 := Tryz.zeroValue5
  t9 := Tryz.underlying9
  a9 := Tryz.isAgg9
  z9 := Tryz.sizeOf9
  v9 := Tryz.zeroValue9
  t22 := Tryz.underlying78
  a22 := Tryz.isAgg78
  z22 := Tryz.sizeOf78
  v22 := Tryz.zeroValue78
  t25 := Tryz.underlying105
  a25 := Tryz.isAgg105
  z25 := Tryz.sizeOf105
  v25 := Tryz.zeroValue105
  t39 := Tryz.underlying136
  a39 := Tryz.isAgg136
  z39 := Tryz.sizeOf136
  v39 := Tryz.zeroValue136
  t45 := Tryz.underlying139
  a45 := Tryz.isAgg139
  z45 := Tryz.sizeOf139
  v45 := Tryz.zeroValue139
  t46 := Tryz.underlying140
  a46 := Tryz.isAgg140
  z46 := Tryz.sizeOf140
  v46 := Tryz.zeroValue140
  t50 := Tryz.underlying97
  a50 := Tryz.isAgg97
  z50 := Tryz.sizeOf97
  v50 := Tryz.zeroValue97
  t53 := Tryz.underlying146
  a53 := Tryz.isAgg146
  z53 := Tryz.sizeOf146
  v53 := Tryz.zeroValue146
  t55 := Tryz.underlying123
  a55 := Tryz.isAgg123
  z55 := Tryz.sizeOf123
  v55 := Tryz.zeroValue123
  t66 := Tryz.underlying150
  a66 := Tryz.isAgg150
  z66 := Tryz.sizeOf150
  v66 := Tryz.zeroValue150
  t70 := Tryz.underlying154
  a70 := Tryz.isAgg154
  z70 := Tryz.sizeOf154
  v70 := Tryz.zeroValue154
  t76 := Tryz.underlying160
  a76 := Tryz.isAgg160
  z76 := Tryz.sizeOf160
  v76 := Tryz.zeroValue160
  t77 := Tryz.underlying161
  a77 := Tryz.isAgg161
  z77 := Tryz.sizeOf161
  v77 := Tryz.zeroValue161 }
end Go.Proofs

set_option linter.unusedSimpArgs false
set_option linter.unusedVariables false
namespace Go.Proofs.YtbknkhcdfjiehaaGreat
open Go.RowKit Go.Sort

instance : Inhabited Edg := ⟨⟨0, 0, false⟩⟩
def cmpI (x y : Int) : Int := if x < y then -1 else if y < x then 1 else 0
def bitI (b : Bool) : Int := if b then 1 else 0
def or3 (a b c : Int) : Int := if a ≠ 0 then a else if b ≠ 0 then b else c
def rowI (a b : Edg) : Int := or3 (cmpI a.fr b.fr) (cmpI a.to b.to) (bitI a.neg - bitI b.neg)

theorem nan_any (x : Int) (w : World) : Calls Tryz.prog 90 #[.int .i64 x] w fun e w' => e = .returned (.bool false) ∧ w' = w := by
  go_enter Tryz.func90, Tryz.ntmps90
  go_wp2
  go_ret
  exact ⟨rfl, rfl⟩
theorem compare_any (x y : Int) (w : World) : Calls Tryz.prog 76 #[.int .i64 x, .int .i64 y] w fun e w' => e = .returned (.int .i64 (cmpI x y)) ∧ w' = w := by
  by_cases h1 : x < y
  · have d1 : decide (x < y) = true := by simp [h1]
    have hr : cmpI x y = -1 := by simp [cmpI, h1]
    rw [hr]
    clear hr
    go_enter Tryz.func76, Tryz.ntmps76
    go_wp2_with (go_at_call 90; refine (nan_any _ _).mono ?_; rintro e w' ⟨rfl, rfl⟩)
    go_ret
    exact ⟨rfl, rfl⟩
  · have d1 : decide (x < y) = false := by simp [h1]
    by_cases h2 : y < x
    · have d2 : decide (y < x) = true := by simp [h2]
      have hr : cmpI x y = 1 := by simp [cmpI, h1, h2]
      rw [hr]
      clear hr
      go_enter Tryz.func76, Tryz.ntmps76
      go_wp2_with (go_at_call 90; refine (nan_any _ _).mono ?_; rintro e w' ⟨rfl, rfl⟩)
      go_ret
      exact ⟨rfl, rfl⟩
    · have d2 : decide (y < x) = false := by simp [h2]
      have hr : cmpI x y = 0 := by simp [cmpI, h1, h2]
      rw [hr]
      clear hr
      go_enter Tryz.func76, Tryz.ntmps76
      go_wp2_with (go_at_call 90; refine (nan_any _ _).mono ?_; rintro e w' ⟨rfl, rfl⟩)
      go_ret
      exact ⟨rfl, rfl⟩
theorem bit_any (b : Bool) (w : World) : Calls Tryz.prog 77 #[.bool b] w fun e w' => e = .returned (.int .i64 (bitI b)) ∧ w' = w := by
  cases b
  all_goals
    go_enter Tryz.func77, Tryz.ntmps77
    go_wp2
    go_ret
    exact ⟨rfl, rfl⟩
def OrRel (w : World) (a b c : Int) (cnt : Value) (wr : World) : Prop := wr = w ∧ (cnt = .int .i64 0 ∨ (cnt = .int .i64 1 ∧ a = 0) ∨ (cnt = .int .i64 2 ∧ a = 0 ∧ b = 0) ∨ (cnt = .int .i64 3 ∧ a = 0 ∧ b = 0 ∧ c = 0))
/-- The first that is not 0 of three. -/
theorem or_any {w : World} {g : Nat} {a b c : Int} (h0 : w.cell? ⟨g, 0, none⟩ = some (.int .i64 a)) (h1 : w.cell? ⟨g, 1, none⟩ = some (.int .i64 b)) (h2 : w.cell? ⟨g, 2, none⟩ = some (.int .i64 c)) :
    Calls Tryz.prog 75 #[.slice (some ⟨g, 0, none⟩) 3 3] w fun e w' => e = .returned (.int .i64 (or3 a b c)) ∧ w' = w := by
  have f0 : (⟨g, 0, none⟩ : Addr).add 0 = ⟨g, 0, none⟩ := add_plain _ _ _
  have f1 : (⟨g, 0, none⟩ : Addr).add 1 = ⟨g, 1, none⟩ := add_plain _ _ _
  have f2 : (⟨g, 0, none⟩ : Addr).add 2 = ⟨g, 2, none⟩ := add_plain _ _ _
  go_enter Tryz.func75, Tryz.ntmps75
  go_wp2_with fail
  go_loopw [8] (fun cnt wr => OrRel w a b c cnt wr) (fun cnt _ => 3 - (intOf cnt).toNat)
  case atStart => exact ⟨rfl, .inl rfl⟩
  case round =>
    obtain ⟨rfl, rfl | ⟨rfl, rfl⟩ | ⟨rfl, rfl, rfl⟩ | ⟨rfl, rfl, rfl, rfl⟩⟩ := hrel
    · by_cases ha : a = 0
      · subst ha
        go_wp2_with fail
        go_roundw
        case rel => exact ⟨rfl, .inr (.inl ⟨rfl, rfl⟩)⟩
        case measure => simp [intOf]
      · have d : (a != 0) = true := by simpa using ha
        go_wp2_with fail
        go_ret
        exact ⟨by simp [or3, ha], rfl⟩
    · by_cases hb : b = 0
      · subst hb
        go_wp2_with fail
        go_roundw
        case rel => exact ⟨rfl, .inr (.inr (.inl ⟨rfl, rfl, rfl⟩))⟩
        case measure => simp [intOf]
      · have d : (b != 0) = true := by simpa using hb
        go_wp2_with fail
        go_ret
        exact ⟨by simp [or3, hb], rfl⟩
    · by_cases hc : c = 0
      · subst hc
        go_wp2_with fail
        go_roundw
        case rel => exact ⟨rfl, .inr (.inr (.inr ⟨rfl, rfl, rfl, rfl⟩))⟩
        case measure => simp [intOf]
      · have d : (c != 0) = true := by simpa using hc
        go_wp2_with fail
        go_ret
        exact ⟨by simp [or3], rfl⟩
    · go_wp2_with fail
      go_ret
      exact ⟨by simp [or3], rfl⟩
def encE (x : Edg) : List Value := [.int .i64 x.fr, .int .i64 x.to, .bool x.neg]
theorem cmp_wrap (a b : Bool) : wrap64 (bitI a - bitI b) = bitI a - bitI b := by cases a <;> cases b <;> simp [bitI, wrap64]
set_option maxRecDepth 100000 in
set_option maxHeartbeats 2000000 in
theorem row_any (x y : Edg) (w : World) : Calls Tryz.prog 53 #[.agg #[.int .i64 x.fr, .int .i64 x.to, .bool x.neg], .agg #[.int .i64 y.fr, .int .i64 y.to, .bool y.neg]] w
    fun e w' => e = .returned (.int .i64 (rowI x y)) ∧ ∃ q os', w' = grow (w.drewN q) os' := by
  have hw := cmp_wrap x.neg y.neg
  have hw' : IntKind.i64.wrap (bitI x.neg - bitI y.neg) = bitI x.neg - bitI y.neg := by cases x.neg <;> cases y.neg <;> simp [bitI, IntKind.wrap, IntKind.bits, IntKind.signed]
  have HR := Lib.hid (show rowI x y = or3 (cmpI x.fr y.fr) (cmpI x.to y.to) (bitI x.neg - bitI y.neg) from rfl)
  go_enter Tryz.func53, Tryz.ntmps53
  go_wp2_with fail
  obtain ⟨w2, hw2⟩ : ∃ w2, w2 = (w.alloc (Obj.cells #[Value.int .i64 x.fr, Value.int .i64 x.to, Value.bool x.neg] 83)).alloc (Obj.cells #[Value.int .i64 y.fr, Value.int .i64 y.to, Value.bool y.neg] 83) := ⟨_, rfl⟩
  have HG := Lib.hid (show ∃ os, w2 = grow w os from ⟨_, by rw [hw2, alloc_eq_grow, alloc_eq_grow, grow_grow]⟩)
  have b1 : w2.heap[w.heap.size]? = some (Obj.cells #[Value.int .i64 x.fr, Value.int .i64 x.to, Value.bool x.neg] 83) := by rw [hw2]; exact blk_below (heap_alloc_new w _) (below_alloc' (below_refl _) _)
  have b2 : w2.heap[w.heap.size + 1]? = some (Obj.cells #[Value.int .i64 y.fr, Value.int .i64 y.to, Value.bool y.neg] 83) := by
    rw [hw2]
    have h := heap_alloc_new (w.alloc (Obj.cells #[Value.int .i64 x.fr, Value.int .i64 x.to, Value.bool x.neg] 83)) (Obj.cells #[Value.int .i64 y.fr, Value.int .i64 y.to, Value.bool y.neg] 83)
    rwa [World.size_alloc] at h
  rw [← hw2]
  clear hw2
  have c0 : w2.cell? ⟨w.heap.size, 0, none⟩ = some (.int .i64 x.fr) := blk_cell b1 0
  have c1 : w2.cell? ⟨w.heap.size, 1, none⟩ = some (.int .i64 x.to) := blk_cell b1 1
  have c2 : w2.cell? ⟨w.heap.size, 2, none⟩ = some (.bool x.neg) := blk_cell b1 2
  have c3 : w2.cell? ⟨w.heap.size + 1, 0, none⟩ = some (.int .i64 y.fr) := blk_cell b2 0
  have c4 : w2.cell? ⟨w.heap.size + 1, 1, none⟩ = some (.int .i64 y.to) := blk_cell b2 1
  have c5 : w2.cell? ⟨w.heap.size + 1, 2, none⟩ = some (.bool y.neg) := blk_cell b2 2
  have l1 := blk_lt b1
  have l2 := blk_lt b2
  clear b1 b2
  go_region_held3 (fun w' => w'.cell? ⟨w.heap.size, 0, none⟩ = some (.int .i64 x.fr) ∧ w'.cell? ⟨w.heap.size, 1, none⟩ = some (.int .i64 x.to) ∧ w'.cell? ⟨w.heap.size, 2, none⟩ = some (.bool x.neg) ∧ w'.cell? ⟨w.heap.size + 1, 0, none⟩ = some (.int .i64 y.fr) ∧ w'.cell? ⟨w.heap.size + 1, 1, none⟩ = some (.int .i64 y.to) ∧ w'.cell? ⟨w.heap.size + 1, 2, none⟩ = some (.bool y.neg)) (((try simp only [World.cell?_drew]); first | with_reducible exact ⟨c0, c1, c2, c3, c4, c5⟩ | ((with_reducible refine ⟨below_cell (w := w2) ?_ c0, below_cell (w := w2) ?_ c1, below_cell (w := w2) ?_ c2, below_cell (w := w2) ?_ c3, below_cell (w := w2) ?_ c4, below_cell (w := w2) ?_ c5⟩) <;> (repeat (first | exact below_refl _ | apply below_alloc' | apply below_drew')); done)))
    (first
      | (go_at_call 76; refine (compare_any _ _ _).mono ?_; rintro e w' ⟨rfl, rfl⟩)
      | (go_at_call 77; refine (bit_any _ _).mono ?_; rintro e w' ⟨rfl, rfl⟩)
      | (go_at_call 75; refine Calls.mono (or_any (g := w2.heap.size) (a := cmpI x.fr y.fr) (b := cmpI x.to y.to) (c := bitI x.neg - bitI y.neg) (by exact blk_cell (heap_alloc_new w2 _) 0) (by exact blk_cell (heap_alloc_new w2 _) 1) (by exact blk_cell (heap_alloc_new w2 _) 2)) ?_; rintro e w' ⟨rfl, rfl⟩)
      | fail)
  go_wp2_with fail
  go_ret
  obtain ⟨os, ho⟩ := HG.out
  exact ⟨by rw [HR.out]; rfl, 1, os ++ #[_], by rw [ho, alloc_eq_grow, grow_grow]; rfl⟩

/-! The order. -/
def ltE (x y : Edg) : Prop := x.fr < y.fr ∨ (x.fr = y.fr ∧ (x.to < y.to ∨ (x.to = y.to ∧ bitI x.neg < bitI y.neg)))
theorem cmpI_cases (x y : Int) : (x < y ∧ cmpI x y = -1) ∨ (x = y ∧ cmpI x y = 0) ∨ (y < x ∧ cmpI x y = 1) := by
  unfold cmpI
  by_cases h1 : x < y
  · left; exact ⟨h1, by rw [if_pos h1]⟩
  · by_cases h2 : y < x
    · right; right; exact ⟨h2, by rw [if_neg h1, if_pos h2]⟩
    · right; left; exact ⟨by omega, by rw [if_neg h1, if_neg h2]⟩
theorem row_lt (x y : Edg) : Go.Proofs.ltOf rowI x y = true ↔ ltE x y := by
  unfold Go.Proofs.ltOf ltE rowI
  rw [decide_eq_true_eq]
  generalize bitI x.neg = bx
  generalize bitI y.neg = bz
  rcases cmpI_cases x.fr y.fr with ⟨h1, e1⟩ | ⟨h1, e1⟩ | ⟨h1, e1⟩ <;> rcases cmpI_cases x.to y.to with ⟨h2, e2⟩ | ⟨h2, e2⟩ | ⟨h2, e2⟩ <;> rw [e1, e2] <;> simp [or3] <;> omega
theorem row_swo : SWO (Go.Proofs.ltOf rowI) where
  irrefl x := by rw [Bool.eq_false_iff, ne_eq, row_lt]; unfold ltE; omega
  trans x y z h1 h2 := by rw [row_lt] at *; unfold ltE at *; omega
  ntrans x y z h1 h2 := by rw [Bool.eq_false_iff, ne_eq, row_lt] at *; unfold ltE at *; omega
theorem row_lays (blk off size : Nat) (w : World) : Go.Proofs.CmpLays Tryz.prog 53 #[] encE 3 rowI blk off size w := fun _ _ _ _ x y => row_any x y _
theorem sort_any (blk off cap : Nat) (d : Array Edg) (w : World) (hH : HoldsK encE 3 w blk off d) (hblk : blk < w.heap.size) (hsz : d.size < 4611686018427387904) :
    Calls Tryz.prog 73 #[.slice (some ⟨blk, off, none⟩) d.size cap, .func (.func 53) #[] #[]] w fun e w' => e = .returned (.tuple #[]) ∧ ∃ d' n os, PermIn 0 d.size d d' ∧ w' = sortWorldK encE 3 w blk off n d' os := by
  have eg : ∀ args w, (callFunc 53 args).run Tryz.prog w = .ok (.enter 53 args) w := enters_of Tryz.func53 (by kernel_rfl) rfl
  have hcon := AnyQ.slices_SortFunc sortEdge 3 Tryz.isAgg83 Tryz.sizeOf83 encE (fun _ => rfl) (fun x v hv => by simp [encE] at hv; rcases hv with rfl | rfl | rfl <;> rfl) rowI row_swo 53 #[] blk off cap d w eg (row_lays blk off d.size w) hH hblk hsz
  change Calls Tryz.prog 73 _ _ _ at hcon
  exact hcon.mono fun e w' ⟨he, d', n, os, hp, _, hw⟩ => ⟨he, d', n, os, hp, hw⟩
end Go.Proofs.YtbknkhcdfjiehaaGreat
