/-
  F0: the contract of slices.SortFunc laid at this dump (printed once by the shelf's tool in plain words; the numbers turned into names).
  F1: how edges are ordered: cmp.Compare, cmp.Or at numbers, deps.bit, deps.row.
-/
import Derived.Shelf.SlSortCmp.WholeK
import Derived.Ground.SlsfProg
import Derived.Test.YtbidpeggdhkahaaProg
import Derived.Test.YtbidpeggdhkahaaW3
import Derived.Deep.RegionHeld3
set_option linter.unusedSimpArgs false
set_option linter.unusedVariables false
namespace Go.Proofs
open Go.Shelf
def Ytbidpeggdhkahaa.sortEdge_ren : Go.Shelf.Ren := ⟨fun | 6 => 56 | 15 => 70 | 14 => 69 | 28 => 83 | 29 => 84 | 20 => 75 | 21 => 76 | 22 => 77 | 23 => 78 | 24 => 79 | 25 => 80 | 26 => 81 | 27 => 82 | 46 => 86 | 47 => 87 | 48 => 88 | 49 => 89 | 50 => 90 | 57 => 93 | n => n, fun | 22 => 95 | 24 => 100 | 25 => 114 | 3 => 3 | 39 => 142 | 0 => 0 | 53 => 153 | 55 => 68 | 4 => 4 | 46 => 147 | 45 => 146 | 50 => 122 | 5 => 5 | 9 => 9 | 66 => 157 | 70 => 161 | 76 => 167 | 77 => 38 | n => n, fun | n => n⟩
theorem Ytbidpeggdhkahaa.sortEdge : Go.Proofs.SlLaysF0.n6 Try.prog Ytbidpeggdhkahaa.sortEdge_ren := {
  mixed := by kernel_rfl
  f6 := ⟨Try.f56.name, by decide, Try.func56.trans (congrArg some (by kernel_rfl))⟩
  f14 := ⟨Try.f69.name, by decide, Try.func69.trans (congrArg some (by kernel_rfl))⟩
  f15 := Try.func70.trans (congrArg some (by kernel_rfl))
  f20 := ⟨Try.f75.name, by decide, Try.func75.trans (congrArg some (by kernel_rfl))⟩
  f21 := ⟨Try.f76.name, by decide, Try.func76.trans (congrArg some (by kernel_rfl))⟩
  f22 := ⟨Try.f77.name, by decide, Try.func77.trans (congrArg some (by kernel_rfl))⟩
  f23 := ⟨Try.f78.name, by decide, Try.func78.trans (congrArg some (by kernel_rfl))⟩
  f24 := ⟨Try.f79.name, by decide, Try.func79.trans (congrArg some (by kernel_rfl))⟩
  f25 := ⟨Try.f80.name, by decide, Try.func80.trans (congrArg some (by kernel_rfl))⟩
  f26 := ⟨Try.f81.name, by decide, Try.func81.trans (congrArg some (by kernel_rfl))⟩
  f27 := ⟨Try.f82.name, by decide, Try.func82.trans (congrArg some (by kernel_rfl))⟩
  f28 := Try.func83.trans (congrArg some (by kernel_rfl))
  f29 := Try.func84.trans (congrArg some (by kernel_rfl))
  f46 := ⟨Try.f86.name, by decide, Try.func86.trans (congrArg some (by kernel_rfl))⟩
  f47 := Try.func87.trans (congrArg some (by kernel_rfl))
  f48 := Try.func88.trans (congrArg some (by kernel_rfl))
  f49 := ⟨Try.f89.name, by decide, Try.func89.trans (congrArg some (by kernel_rfl))⟩
  f50 := ⟨Try.f90.name, by decide, Try.func90.trans (congrArg some (by kernel_rfl))⟩
  f57 := ⟨Try.f93.name, by decide, Try.func93.trans (congrArg some (by kernel_rfl))⟩
  t0 := Try.underlying0
  a0 := Try.isAgg0
  z0 := Try.sizeOf0
  v0 := Try.zeroValue0
  t3 := Try.underlying3
  a3 := Try.isAgg3
  z3 := Try.sizeOf3
  v3 := Try.zeroValue3
  t4 := Try.underlying4
  a4 := Try.isAgg4
  z4 := Try.sizeOf4
  v4 := Try.zeroValue4
  t5 := Try.underlying5
  a5 := Try.isAgg5
  z5 := Try.sizeOf5
  v5 := Try.zeroValue5
  t9 := Try.underlying9
  a9 := Try.isAgg9
  z9 := Try.sizeOf9
  v9 := Try.zeroValue9
  t22 := Try.underlying95
  a22 := Try.isAgg95
  z22 := Try.sizeOf95
  v22 := Try.zeroValue95
  t25 := Try.underlying114
  a25 := Try.isAgg114
  z25 := Try.sizeOf114
  v25 := Try.zeroValue114
  t39 := Try.underlying142
  a39 := Try.isAgg142
  z39 := Try.sizeOf142
  v39 := Try.zeroValue142
  t45 := Try.underlying146
  a45 := Try.isAgg146
  z45 := Try.sizeOf146
  v45 := Try.zeroValue146
  t46 := Try.underlying147
  a46 := Try.isAgg147
  z46 := Try.sizeOf147
  v46 := Try.zeroValue147
  t50 := Try.underlying122
  a50 := Try.isAgg122
  z50 := Try.sizeOf122
  v50 := Try.zeroValue122
  t53 := Try.underlying153
  a53 := Try.isAgg153
  z53 := Try.sizeOf153
  v53 := Try.zeroValue153
  t55 := Try.underlying68
  a55 := Try.isAgg68
  z55 := Try.sizeOf68
  v55 := Try.zeroValue68
  t66 := Try.underlying157
  a66 := Try.isAgg157
  z66 := Try.sizeOf157
  v66 := Try.zeroValue157
  t70 := Try.underlying161
  a70 := Try.isAgg161
  z70 := Try.sizeOf161
  v70 := Try.zeroValue161
  t76 := Try.underlying167
  a76 := Try.isAgg167
  z76 := Try.sizeOf167
  v76 := Try.zeroValue167
  t77 := Try.underlying38
  a77 := Try.isAgg38
  z77 := Try.sizeOf38
  v77 := Try.zeroValue38 }
end Go.Proofs

set_option linter.unusedSimpArgs false
set_option linter.unusedVariables false
namespace Go.Proofs.Ytbidpeggdhkahaa
open Go.RowKit Go.Sort

instance : Inhabited Edg := ⟨⟨0, 0, false⟩⟩
def cmpI (x y : Int) : Int := if x < y then -1 else if y < x then 1 else 0
def bitI (b : Bool) : Int := if b then 1 else 0
def or3 (a b c : Int) : Int := if a ≠ 0 then a else if b ≠ 0 then b else c
def rowI (a b : Edg) : Int := or3 (cmpI a.fr b.fr) (cmpI a.to b.to) (bitI a.neg - bitI b.neg)

theorem nan_any (x : Int) (w : World) : Calls Try.prog 71 #[.int .i64 x] w fun e w' => e = .returned (.bool false) ∧ w' = w := by
  go_enter Try.func71, Try.ntmps71
  go_wp2
  go_ret
  exact ⟨rfl, rfl⟩
theorem compare_any (x y : Int) (w : World) : Calls Try.prog 59 #[.int .i64 x, .int .i64 y] w fun e w' => e = .returned (.int .i64 (cmpI x y)) ∧ w' = w := by
  by_cases h1 : x < y
  · have d1 : decide (x < y) = true := by simp [h1]
    have hr : cmpI x y = -1 := by simp [cmpI, h1]
    rw [hr]
    clear hr
    go_enter Try.func59, Try.ntmps59
    go_wp2_with (go_at_call 71; refine (nan_any _ _).mono ?_; rintro e w' ⟨rfl, rfl⟩)
    go_ret
    exact ⟨rfl, rfl⟩
  · have d1 : decide (x < y) = false := by simp [h1]
    by_cases h2 : y < x
    · have d2 : decide (y < x) = true := by simp [h2]
      have hr : cmpI x y = 1 := by simp [cmpI, h1, h2]
      rw [hr]
      clear hr
      go_enter Try.func59, Try.ntmps59
      go_wp2_with (go_at_call 71; refine (nan_any _ _).mono ?_; rintro e w' ⟨rfl, rfl⟩)
      go_ret
      exact ⟨rfl, rfl⟩
    · have d2 : decide (y < x) = false := by simp [h2]
      have hr : cmpI x y = 0 := by simp [cmpI, h1, h2]
      rw [hr]
      clear hr
      go_enter Try.func59, Try.ntmps59
      go_wp2_with (go_at_call 71; refine (nan_any _ _).mono ?_; rintro e w' ⟨rfl, rfl⟩)
      go_ret
      exact ⟨rfl, rfl⟩
theorem bit_any (b : Bool) (w : World) : Calls Try.prog 60 #[.bool b] w fun e w' => e = .returned (.int .i64 (bitI b)) ∧ w' = w := by
  cases b
  all_goals
    go_enter Try.func60, Try.ntmps60
    go_wp2
    go_ret
    exact ⟨rfl, rfl⟩
def OrRel (w : World) (a b c : Int) (cnt : Value) (wr : World) : Prop := wr = w ∧ (cnt = .int .i64 0 ∨ (cnt = .int .i64 1 ∧ a = 0) ∨ (cnt = .int .i64 2 ∧ a = 0 ∧ b = 0) ∨ (cnt = .int .i64 3 ∧ a = 0 ∧ b = 0 ∧ c = 0))
/-- The first that is not 0 of three. -/
theorem or_any {w : World} {g : Nat} {a b c : Int} (h0 : w.cell? ⟨g, 0, none⟩ = some (.int .i64 a)) (h1 : w.cell? ⟨g, 1, none⟩ = some (.int .i64 b)) (h2 : w.cell? ⟨g, 2, none⟩ = some (.int .i64 c)) :
    Calls Try.prog 58 #[.slice (some ⟨g, 0, none⟩) 3 3] w fun e w' => e = .returned (.int .i64 (or3 a b c)) ∧ w' = w := by
  have f0 : (⟨g, 0, none⟩ : Addr).add 0 = ⟨g, 0, none⟩ := add_plain _ _ _
  have f1 : (⟨g, 0, none⟩ : Addr).add 1 = ⟨g, 1, none⟩ := add_plain _ _ _
  have f2 : (⟨g, 0, none⟩ : Addr).add 2 = ⟨g, 2, none⟩ := add_plain _ _ _
  go_enter Try.func58, Try.ntmps58
  go_wp2_with fail
  go_loopw [8] (fun cnt wr => OrRel w a b c cnt wr) (fun cnt _ => 3 - (intOf cnt).toNat)
  case atStart => exact ⟨rfl, .inl rfl⟩
  case round =>
    obtain ⟨rfl, rfl | ⟨rfl, rfl⟩ | ⟨rfl, rfl, rfl⟩ | ⟨rfl, rfl, rfl, rfl⟩⟩ := hrel
    · by_cases ha : a = 0
      · subst ha
        go_wp2_with fail
        go_roundw
        case rel => exact ⟨rfl, .inr (.inl ⟨rfl, rfl⟩)⟩
        case measure => simp [intOf]
      · have d : (a != 0) = true := by simpa using ha
        go_wp2_with fail
        go_ret
        exact ⟨by simp [or3, ha], rfl⟩
    · by_cases hb : b = 0
      · subst hb
        go_wp2_with fail
        go_roundw
        case rel => exact ⟨rfl, .inr (.inr (.inl ⟨rfl, rfl, rfl⟩))⟩
        case measure => simp [intOf]
      · have d : (b != 0) = true := by simpa using hb
        go_wp2_with fail
        go_ret
        exact ⟨by simp [or3, hb], rfl⟩
    · by_cases hc : c = 0
      · subst hc
        go_wp2_with fail
        go_roundw
        case rel => exact ⟨rfl, .inr (.inr (.inr ⟨rfl, rfl, rfl, rfl⟩))⟩
        case measure => simp [intOf]
      · have d : (c != 0) = true := by simpa using hc
        go_wp2_with fail
        go_ret
        exact ⟨by simp [or3], rfl⟩
    · go_wp2_with fail
      go_ret
      exact ⟨by simp [or3], rfl⟩
def encE (x : Edg) : List Value := [.int .i64 x.fr, .int .i64 x.to, .bool x.neg]
theorem cmp_wrap (a b : Bool) : wrap64 (bitI a - bitI b) = bitI a - bitI b := by cases a <;> cases b <;> simp [bitI, wrap64]
set_option maxRecDepth 100000 in
set_option maxHeartbeats 2000000 in
theorem row_any (x y : Edg) (w : World) : Calls Try.prog 45 #[.agg #[.int .i64 x.fr, .int .i64 x.to, .bool x.neg], .agg #[.int .i64 y.fr, .int .i64 y.to, .bool y.neg]] w
    fun e w' => e = .returned (.int .i64 (rowI x y)) ∧ ∃ q os', w' = grow (w.drewN q) os' := by
  have hw := cmp_wrap x.neg y.neg
  have hw' : IntKind.i64.wrap (bitI x.neg - bitI y.neg) = bitI x.neg - bitI y.neg := by cases x.neg <;> cases y.neg <;> simp [bitI, IntKind.wrap, IntKind.bits, IntKind.signed]
  have HR := Lib.hid (show rowI x y = or3 (cmpI x.fr y.fr) (cmpI x.to y.to) (bitI x.neg - bitI y.neg) from rfl)
  go_enter Try.func45, Try.ntmps45
  go_wp2_with fail
  obtain ⟨w2, hw2⟩ : ∃ w2, w2 = (w.alloc (Obj.cells #[Value.int .i64 x.fr, Value.int .i64 x.to, Value.bool x.neg] 100)).alloc (Obj.cells #[Value.int .i64 y.fr, Value.int .i64 y.to, Value.bool y.neg] 100) := ⟨_, rfl⟩
  have HG := Lib.hid (show ∃ os, w2 = grow w os from ⟨_, by rw [hw2, alloc_eq_grow, alloc_eq_grow, grow_grow]⟩)
  have b1 : w2.heap[w.heap.size]? = some (Obj.cells #[Value.int .i64 x.fr, Value.int .i64 x.to, Value.bool x.neg] 100) := by rw [hw2]; exact blk_below (heap_alloc_new w _) (below_alloc' (below_refl _) _)
  have b2 : w2.heap[w.heap.size + 1]? = some (Obj.cells #[Value.int .i64 y.fr, Value.int .i64 y.to, Value.bool y.neg] 100) := by
    rw [hw2]
    have h := heap_alloc_new (w.alloc (Obj.cells #[Value.int .i64 x.fr, Value.int .i64 x.to, Value.bool x.neg] 100)) (Obj.cells #[Value.int .i64 y.fr, Value.int .i64 y.to, Value.bool y.neg] 100)
    rwa [World.size_alloc] at h
  rw [← hw2]
  clear hw2
  have c0 : w2.cell? ⟨w.heap.size, 0, none⟩ = some (.int .i64 x.fr) := blk_cell b1 0
  have c1 : w2.cell? ⟨w.heap.size, 1, none⟩ = some (.int .i64 x.to) := blk_cell b1 1
  have c2 : w2.cell? ⟨w.heap.size, 2, none⟩ = some (.bool x.neg) := blk_cell b1 2
  have c3 : w2.cell? ⟨w.heap.size + 1, 0, none⟩ = some (.int .i64 y.fr) := blk_cell b2 0
  have c4 : w2.cell? ⟨w.heap.size + 1, 1, none⟩ = some (.int .i64 y.to) := blk_cell b2 1
  have c5 : w2.cell? ⟨w.heap.size + 1, 2, none⟩ = some (.bool y.neg) := blk_cell b2 2
  have l1 := blk_lt b1
  have l2 := blk_lt b2
  clear b1 b2
  go_region_held3 (fun w' => w'.cell? ⟨w.heap.size, 0, none⟩ = some (.int .i64 x.fr) ∧ w'.cell? ⟨w.heap.size, 1, none⟩ = some (.int .i64 x.to) ∧ w'.cell? ⟨w.heap.size, 2, none⟩ = some (.bool x.neg) ∧ w'.cell? ⟨w.heap.size + 1, 0, none⟩ = some (.int .i64 y.fr) ∧ w'.cell? ⟨w.heap.size + 1, 1, none⟩ = some (.int .i64 y.to) ∧ w'.cell? ⟨w.heap.size + 1, 2, none⟩ = some (.bool y.neg)) (((try simp only [World.cell?_drew]); first | with_reducible exact ⟨c0, c1, c2, c3, c4, c5⟩ | ((with_reducible refine ⟨below_cell (w := w2) ?_ c0, below_cell (w := w2) ?_ c1, below_cell (w := w2) ?_ c2, below_cell (w := w2) ?_ c3, below_cell (w := w2) ?_ c4, below_cell (w := w2) ?_ c5⟩) <;> (repeat (first | exact below_refl _ | apply below_alloc' | apply below_drew')); done)))
    (first
      | (go_at_call 59; refine (compare_any _ _ _).mono ?_; rintro e w' ⟨rfl, rfl⟩)
      | (go_at_call 60; refine (bit_any _ _).mono ?_; rintro e w' ⟨rfl, rfl⟩)
      | (go_at_call 58; refine Calls.mono (or_any (g := w2.heap.size) (a := cmpI x.fr y.fr) (b := cmpI x.to y.to) (c := bitI x.neg - bitI y.neg) (by exact blk_cell (heap_alloc_new w2 _) 0) (by exact blk_cell (heap_alloc_new w2 _) 1) (by exact blk_cell (heap_alloc_new w2 _) 2)) ?_; rintro e w' ⟨rfl, rfl⟩)
      | fail)
  go_wp2_with fail
  go_ret
  obtain ⟨os, ho⟩ := HG.out
  exact ⟨by rw [HR.out]; rfl, 1, os ++ #[_], by rw [ho, alloc_eq_grow, grow_grow]; rfl⟩

/-! The order. -/
def ltE (x y : Edg) : Prop := x.fr < y.fr ∨ (x.fr = y.fr ∧ (x.to < y.to ∨ (x.to = y.to ∧ bitI x.neg < bitI y.neg)))
theorem cmpI_cases (x y : Int) : (x < y ∧ cmpI x y = -1) ∨ (x = y ∧ cmpI x y = 0) ∨ (y < x ∧ cmpI x y = 1) := by
  unfold cmpI
  by_cases h1 : x < y
  · left; exact ⟨h1, by rw [if_pos h1]⟩
  · by_cases h2 : y < x
    · right; right; exact ⟨h2, by rw [if_neg h1, if_pos h2]⟩
    · right; left; exact ⟨by omega, by rw [if_neg h1, if_neg h2]⟩
theorem row_lt (x y : Edg) : Go.Proofs.ltOf rowI x y = true ↔ ltE x y := by
  unfold Go.Proofs.ltOf ltE rowI
  rw [decide_eq_true_eq]
  generalize bitI x.neg = bx
  generalize bitI y.neg = bz
  rcases cmpI_cases x.fr y.fr with ⟨h1, e1⟩ | ⟨h1, e1⟩ | ⟨h1, e1⟩ <;> rcases cmpI_cases x.to y.to with ⟨h2, e2⟩ | ⟨h2, e2⟩ | ⟨h2, e2⟩ <;> rw [e1, e2] <;> simp [or3] <;> omega
theorem row_swo : SWO (Go.Proofs.ltOf rowI) where
  irrefl x := by rw [Bool.eq_false_iff, ne_eq, row_lt]; unfold ltE; omega
  trans x y z h1 h2 := by rw [row_lt] at *; unfold ltE at *; omega
  ntrans x y z h1 h2 := by rw [Bool.eq_false_iff, ne_eq, row_lt] at *; unfold ltE at *; omega
theorem row_lays (blk off size : Nat) (w : World) : Go.Proofs.CmpLays Try.prog 45 #[] encE 3 rowI blk off size w := fun _ _ _ _ x y => row_any x y _
theorem sort_any (blk off cap : Nat) (d : Array Edg) (w : World) (hH : HoldsK encE 3 w blk off d) (hblk : blk < w.heap.size) (hsz : d.size < 4611686018427387904) :
    Calls Try.prog 56 #[.slice (some ⟨blk, off, none⟩) d.size cap, .func (.func 45) #[] #[]] w fun e w' => e = .returned (.tuple #[]) ∧ ∃ d' n os, PermIn 0 d.size d d' ∧ w' = sortWorldK encE 3 w blk off n d' os := by
  have eg : ∀ args w, (callFunc 45 args).run Try.prog w = .ok (.enter 45 args) w := enters_of Try.func45 (by kernel_rfl) rfl
  have hcon := AnyQ.slices_SortFunc sortEdge 3 Try.isAgg100 Try.sizeOf100 encE (fun _ => rfl) (fun x v hv => by simp [encE] at hv; rcases hv with rfl | rfl | rfl <;> rfl) rowI row_swo 45 #[] blk off cap d w eg (row_lays blk off d.size w) hH hblk hsz
  change Calls Try.prog 56 _ _ _ at hcon
  exact hcon.mono fun e w' ⟨he, d', n, os, hp, _, hw⟩ => ⟨he, d', n, os, hp, hw⟩
end Go.Proofs.Ytbidpeggdhkahaa
