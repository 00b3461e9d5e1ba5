/-
  F0: the contract of slices.SortFunc laid at this dump (printed once by the shelf's tool in plain words; the numbers turned into names).
  F1: how edges are ordered: cmp.Compare, cmp.Or at numbers, deps.bit, deps.row.
-/
import Derived.Shelf.SlSortCmp.WholeK
import Derived.Ground.SlsfProg
import Derived.Test.YtbidpeggdhkahaaGreatProg
import Derived.Test.YtbidpeggdhkahaaGreatW3
import Derived.Deep.RegionHeld3
set_option linter.unusedSimpArgs false
set_option linter.unusedVariables false
namespace Go.Proofs
open Go.Shelf
def YtbidpeggdhkahaaGreat.sortEdge_ren : Go.Shelf.Ren := ⟨fun | 6 => 106 | 15 => 120 | 14 => 119 | 28 => 133 | 29 => 134 | 20 => 125 | 21 => 126 | 22 => 127 | 23 => 128 | 24 => 129 | 25 => 130 | 26 => 131 | 27 => 132 | 46 => 136 | 47 => 137 | 48 => 138 | 49 => 139 | 50 => 140 | 57 => 143 | n => n, fun | 22 => 110 | 24 => 114 | 25 => 166 | 3 => 3 | 39 => 190 | 0 => 0 | 53 => 200 | 55 => 180 | 4 => 4 | 46 => 194 | 45 => 193 | 50 => 159 | 5 => 5 | 9 => 9 | 66 => 204 | 70 => 208 | 76 => 214 | 77 => 215 | n => n, fun | n => n⟩
theorem YtbidpeggdhkahaaGreat.sortEdge : Go.Proofs.SlLaysF0.n6 Tryz.prog YtbidpeggdhkahaaGreat.sortEdge_ren := {
  mixed := by kernel_rfl
  f6 := ⟨Tryz.f106.name, by decide, Tryz.func106.trans (congrArg some (by kernel_rfl))⟩
  f14 := ⟨Tryz.f119.name, by decide, Tryz.func119.trans (congrArg some (by kernel_rfl))⟩
  f15 := Tryz.func120.trans (congrArg some (by kernel_rfl))
  f20 := ⟨Tryz.f125.name, by decide, Tryz.func125.trans (congrArg some (by kernel_rfl))⟩
  f21 := ⟨Tryz.f126.name, by decide, Tryz.func126.trans (congrArg some (by kernel_rfl))⟩
  f22 := ⟨Tryz.f127.name, by decide, Tryz.func127.trans (congrArg some (by kernel_rfl))⟩
  f23 := ⟨Tryz.f128.name, by decide, Tryz.func128.trans (congrArg some (by kernel_rfl))⟩
  f24 := ⟨Tryz.f129.name, by decide, Tryz.func129.trans (congrArg some (by kernel_rfl))⟩
  f25 := ⟨Tryz.f130.name, by decide, Tryz.func130.trans (congrArg some (by kernel_rfl))⟩
  f26 := ⟨Tryz.f131.name, by decide, Tryz.func131.trans (congrArg some (by kernel_rfl))⟩
  f27 := ⟨Tryz.f132.name, by decide, Tryz.func132.trans (congrArg some (by kernel_rfl))⟩
  f28 := Tryz.func133.trans (congrArg some (by kernel_rfl))
  f29 := Tryz.func134.trans (congrArg some (by kernel_rfl))
  f46 := ⟨Tryz.f136.name, by decide, Tryz.func136.trans (congrArg some (by kernel_rfl))⟩
  f47 := Tryz.func137.trans (congrArg some (by kernel_rfl))
  f48 := Tryz.func138.trans (congrArg some (by kernel_rfl))
  f49 := ⟨Tryz.f139.name, by decide, Tryz.func139.trans (congrArg some (by kernel_rfl))⟩
  f50 := ⟨Tryz.f140.name, by decide, Tryz.func140.trans (congrArg some (by kernel_rfl))⟩
  f57 := ⟨Tryz.f143.name, by decide, Tryz.func143.trans (congrArg some (by kernel_rfl))⟩
  t0 := Tryz.underlying0
  a0 := Tryz.isAgg0
  z0 := Tryz.sizeOf0
  v0 := Tryz.zeroValue0
  t3 := Tryz.underlying3
  a3 := Tryz.isAgg3
  z3 := Tryz.sizeOf3
  v3 := Tryz.zeroValue3
  t4 := Tryz.underlying4
  a4 := Tryz.isAgg4
  z4 := Tryz.sizeOf4
  v4 := Tryz.zeroValue4
  t5 := Tryz.underlying5
  a5 := Tryz.isAgg5
  z5 := Tryz.sizeOf5
  v5 := Tryz.zeroValue5
  t9 := Tryz.underlying9
  a9 := Tryz.isAgg9
  z9 := Tryz.sizeOf9
  v9 := Tryz.zeroValue9
  t22 := Tryz.underlying110
  a22 := Tryz.isAgg110
  z22 := Tryz.sizeOf110
  v22 := Tryz.zeroValue110
  t25 := Tryz.underlying166
  a25 := Tryz.isAgg166
  z25 := Tryz.sizeOf166
  v25 := Tryz.zeroValue166
  t39 := Tryz.underlying190
  a39 := Tryz.isAgg190
  z39 := Tryz.sizeOf190
  v39 := Tryz.zeroValue190
  t45 := Tryz.underlying193
  a45 := Tryz.isAgg193
  z45 := Tryz.sizeOf193
  v45 := Tryz.zeroValue193
  t46 := Tryz.underlying194
  a46 := Tryz.isAgg194
  z46 := Tryz.sizeOf194
  v46 := Tryz.zeroValue194
  t50 := Tryz.underlying159
  a50 := Tryz.isAgg159
  z50 := Tryz.sizeOf159
  v50 := Tryz.zeroValue159
  t53 := Tryz.underlying200
  a53 := Tryz.isAgg200
  z53 := Tryz.sizeOf200
  v53 := Tryz.zeroValue200
  t55 := Tryz.underlying180
  a55 := Tryz.isAgg180
  z55 := Tryz.sizeOf180
  v55 := Tryz.zeroValue180
  t66 := Tryz.underlying204
  a66 := Tryz.isAgg204
  z66 := Tryz.sizeOf204
  v66 := Tryz.zeroValue204
  t70 := Tryz.underlying208
  a70 := Tryz.isAgg208
  z70 := Tryz.sizeOf208
  v70 := Tryz.zeroValue208
  t76 := Tryz.underlying214
  a76 := Tryz.isAgg214
  z76 := Tryz.sizeOf214
  v76 := Tryz.zeroValue214
  t77 := Tryz.underlying215
  a77 := Tryz.isAgg215
  z77 := Tryz.sizeOf215
  v77 := Tryz.zeroValue215 }
end Go.Proofs

set_option linter.unusedSimpArgs false
set_option linter.unusedVariables false
namespace Go.Proofs.YtbidpeggdhkahaaGreat
open Go.RowKit Go.Sort

instance : Inhabited Edg := ⟨⟨0, 0, false⟩⟩
def cmpI (x y : Int) : Int := if x < y then -1 else if y < x then 1 else 0
def bitI (b : Bool) : Int := if b then 1 else 0
def or3 (a b c : Int) : Int := if a ≠ 0 then a else if b ≠ 0 then b else c
def rowI (a b : Edg) : Int := or3 (cmpI a.fr b.fr) (cmpI a.to b.to) (bitI a.neg - bitI b.neg)

theorem nan_any (x : Int) (w : World) : Calls Tryz.prog 121 #[.int .i64 x] w fun e w' => e = .returned (.bool false) ∧ w' = w := by
  go_enter Tryz.func121, Tryz.ntmps121
  go_wp2
  go_ret
  exact ⟨rfl, rfl⟩
theorem compare_any (x y : Int) (w : World) : Calls Tryz.prog 109 #[.int .i64 x, .int .i64 y] w fun e w' => e = .returned (.int .i64 (cmpI x y)) ∧ w' = w := by
  by_cases h1 : x < y
  · have d1 : decide (x < y) = true := by simp [h1]
    have hr : cmpI x y = -1 := by simp [cmpI, h1]
    rw [hr]
    clear hr
    go_enter Tryz.func109, Tryz.ntmps109
    go_wp2_with (go_at_call 121; refine (nan_any _ _).mono ?_; rintro e w' ⟨rfl, rfl⟩)
    go_ret
    exact ⟨rfl, rfl⟩
  · have d1 : decide (x < y) = false := by simp [h1]
    by_cases h2 : y < x
    · have d2 : decide (y < x) = true := by simp [h2]
      have hr : cmpI x y = 1 := by simp [cmpI, h1, h2]
      rw [hr]
      clear hr
      go_enter Tryz.func109, Tryz.ntmps109
      go_wp2_with (go_at_call 121; refine (nan_any _ _).mono ?_; rintro e w' ⟨rfl, rfl⟩)
      go_ret
      exact ⟨rfl, rfl⟩
    · have d2 : decide (y < x) = false := by simp [h2]
      have hr : cmpI x y = 0 := by simp [cmpI, h1, h2]
      rw [hr]
      clear hr
      go_enter Tryz.func109, Tryz.ntmps109
      go_wp2_with (go_at_call 121; refine (nan_any _ _).mono ?_; rintro e w' ⟨rfl, rfl⟩)
      go_ret
      exact ⟨rfl, rfl⟩
theorem bit_any (b : Bool) (w : World) : Calls Tryz.prog 110 #[.bool b] w fun e w' => e = .returned (.int .i64 (bitI b)) ∧ w' = w := by
  cases b
  all_goals
    go_enter Tryz.func110, Tryz.ntmps110
    go_wp2
    go_ret
    exact ⟨rfl, rfl⟩
def OrRel (w : World) (a b c : Int) (cnt : Value) (wr : World) : Prop := wr = w ∧ (cnt = .int .i64 0 ∨ (cnt = .int .i64 1 ∧ a = 0) ∨ (cnt = .int .i64 2 ∧ a = 0 ∧ b = 0) ∨ (cnt = .int .i64 3 ∧ a = 0 ∧ b = 0 ∧ c = 0))
/-- The first that is not 0 of three. -/
theorem or_any {w : World} {g : Nat} {a b c : Int} (h0 : w.cell? ⟨g, 0, none⟩ = some (.int .i64 a)) (h1 : w.cell? ⟨g, 1, none⟩ = some (.int .i64 b)) (h2 : w.cell? ⟨g, 2, none⟩ = some (.int .i64 c)) :
    Calls Tryz.prog 108 #[.slice (some ⟨g, 0, none⟩) 3 3] w fun e w' => e = .returned (.int .i64 (or3 a b c)) ∧ w' = w := by
  have f0 : (⟨g, 0, none⟩ : Addr).add 0 = ⟨g, 0, none⟩ := add_plain _ _ _
  have f1 : (⟨g, 0, none⟩ : Addr).add 1 = ⟨g, 1, none⟩ := add_plain _ _ _
  have f2 : (⟨g, 0, none⟩ : Addr).add 2 = ⟨g, 2, none⟩ := add_plain _ _ _
  go_enter Tryz.func108, Tryz.ntmps108
  go_wp2_with fail
  go_loopw [8] (fun cnt wr => OrRel w a b c cnt wr) (fun cnt _ => 3 - (intOf cnt).toNat)
  case atStart => exact ⟨rfl, .inl rfl⟩
  case round =>
    obtain ⟨rfl, rfl | ⟨rfl, rfl⟩ | ⟨rfl, rfl, rfl⟩ | ⟨rfl, rfl, rfl, rfl⟩⟩ := hrel
    · by_cases ha : a = 0
      · subst ha
        go_wp2_with fail
        go_roundw
        case rel => exact ⟨rfl, .inr (.inl ⟨rfl, rfl⟩)⟩
        case measure => simp [intOf]
      · have d : (a != 0) = true := by simpa using ha
        go_wp2_with fail
        go_ret
        exact ⟨by simp [or3, ha], rfl⟩
    · by_cases hb : b = 0
      · subst hb
        go_wp2_with fail
        go_roundw
        case rel => exact ⟨rfl, .inr (.inr (.inl ⟨rfl, rfl, rfl⟩))⟩
        case measure => simp [intOf]
      · have d : (b != 0) = true := by simpa using hb
        go_wp2_with fail
        go_ret
        exact ⟨by simp [or3, hb], rfl⟩
    · by_cases hc : c = 0
      · subst hc
        go_wp2_with fail
        go_roundw
        case rel => exact ⟨rfl, .inr (.inr (.inr ⟨rfl, rfl, rfl, rfl⟩))⟩
        case measure => simp [intOf]
      · have d : (c != 0) = true := by simpa using hc
        go_wp2_with fail
        go_ret
        exact ⟨by simp [or3], rfl⟩
    · go_wp2_with fail
      go_ret
      exact ⟨by simp [or3], rfl⟩
def encE (x : Edg) : List Value := [.int .i64 x.fr, .int .i64 x.to, .bool x.neg]
theorem cmp_wrap (a b : Bool) : wrap64 (bitI a - bitI b) = bitI a - bitI b := by cases a <;> cases b <;> simp [bitI, wrap64]
set_option maxRecDepth 100000 in
set_option maxHeartbeats 2000000 in
theorem row_any (x y : Edg) (w : World) : Calls Tryz.prog 91 #[.agg #[.int .i64 x.fr, .int .i64 x.to, .bool x.neg], .agg #[.int .i64 y.fr, .int .i64 y.to, .bool y.neg]] w
    fun e w' => e = .returned (.int .i64 (rowI x y)) ∧ ∃ q os', w' = grow (w.drewN q) os' := by
  have hw := cmp_wrap x.neg y.neg
  have hw' : IntKind.i64.wrap (bitI x.neg - bitI y.neg) = bitI x.neg - bitI y.neg := by cases x.neg <;> cases y.neg <;> simp [bitI, IntKind.wrap, IntKind.bits, IntKind.signed]
  have HR := Lib.hid (show rowI x y = or3 (cmpI x.fr y.fr) (cmpI x.to y.to) (bitI x.neg - bitI y.neg) from rfl)
  go_enter Tryz.func91, Tryz.ntmps91
  go_wp2_with fail
  obtain ⟨w2, hw2⟩ : ∃ w2, w2 = (w.alloc (Obj.cells #[Value.int .i64 x.fr, Value.int .i64 x.to, Value.bool x.neg] 114)).alloc (Obj.cells #[Value.int .i64 y.fr, Value.int .i64 y.to, Value.bool y.neg] 114) := ⟨_, rfl⟩
  have HG := Lib.hid (show ∃ os, w2 = grow w os from ⟨_, by rw [hw2, alloc_eq_grow, alloc_eq_grow, grow_grow]⟩)
  have b1 : w2.heap[w.heap.size]? = some (Obj.cells #[Value.int .i64 x.fr, Value.int .i64 x.to, Value.bool x.neg] 114) := by rw [hw2]; exact blk_below (heap_alloc_new w _) (below_alloc' (below_refl _) _)
  have b2 : w2.heap[w.heap.size + 1]? = some (Obj.cells #[Value.int .i64 y.fr, Value.int .i64 y.to, Value.bool y.neg] 114) := by
    rw [hw2]
    have h := heap_alloc_new (w.alloc (Obj.cells #[Value.int .i64 x.fr, Value.int .i64 x.to, Value.bool x.neg] 114)) (Obj.cells #[Value.int .i64 y.fr, Value.int .i64 y.to, Value.bool y.neg] 114)
    rwa [World.size_alloc] at h
  rw [← hw2]
  clear hw2
  have c0 : w2.cell? ⟨w.heap.size, 0, none⟩ = some (.int .i64 x.fr) := blk_cell b1 0
  have c1 : w2.cell? ⟨w.heap.size, 1, none⟩ = some (.int .i64 x.to) := blk_cell b1 1
  have c2 : w2.cell? ⟨w.heap.size, 2, none⟩ = some (.bool x.neg) := blk_cell b1 2
  have c3 : w2.cell? ⟨w.heap.size + 1, 0, none⟩ = some (.int .i64 y.fr) := blk_cell b2 0
  have c4 : w2.cell? ⟨w.heap.size + 1, 1, none⟩ = some (.int .i64 y.to) := blk_cell b2 1
  have c5 : w2.cell? ⟨w.heap.size + 1, 2, none⟩ = some (.bool y.neg) := blk_cell b2 2
  have l1 := blk_lt b1
  have l2 := blk_lt b2
  clear b1 b2
  go_region_held3 (fun w' => w'.cell? ⟨w.heap.size, 0, none⟩ = some (.int .i64 x.fr) ∧ w'.cell? ⟨w.heap.size, 1, none⟩ = some (.int .i64 x.to) ∧ w'.cell? ⟨w.heap.size, 2, none⟩ = some (.bool x.neg) ∧ w'.cell? ⟨w.heap.size + 1, 0, none⟩ = some (.int .i64 y.fr) ∧ w'.cell? ⟨w.heap.size + 1, 1, none⟩ = some (.int .i64 y.to) ∧ w'.cell? ⟨w.heap.size + 1, 2, none⟩ = some (.bool y.neg)) (((try simp only [World.cell?_drew]); first | with_reducible exact ⟨c0, c1, c2, c3, c4, c5⟩ | ((with_reducible refine ⟨below_cell (w := w2) ?_ c0, below_cell (w := w2) ?_ c1, below_cell (w := w2) ?_ c2, below_cell (w := w2) ?_ c3, below_cell (w := w2) ?_ c4, below_cell (w := w2) ?_ c5⟩) <;> (repeat (first | exact below_refl _ | apply below_alloc' | apply below_drew')); done)))
    (first
      | (go_at_call 109; refine (compare_any _ _ _).mono ?_; rintro e w' ⟨rfl, rfl⟩)
      | (go_at_call 110; refine (bit_any _ _).mono ?_; rintro e w' ⟨rfl, rfl⟩)
      | (go_at_call 108; refine Calls.mono (or_any (g := w2.heap.size) (a := cmpI x.fr y.fr) (b := cmpI x.to y.to) (c := bitI x.neg - bitI y.neg) (by exact blk_cell (heap_alloc_new w2 _) 0) (by exact blk_cell (heap_alloc_new w2 _) 1) (by exact blk_cell (heap_alloc_new w2 _) 2)) ?_; rintro e w' ⟨rfl, rfl⟩)
      | fail)
  go_wp2_with fail
  go_ret
  obtain ⟨os, ho⟩ := HG.out
  exact ⟨by rw [HR.out]; rfl, 1, os ++ #[_], by rw [ho, alloc_eq_grow, grow_grow]; rfl⟩

/-! The order. -/
def ltE (x y : Edg) : Prop := x.fr < y.fr ∨ (x.fr = y.fr ∧ (x.to < y.to ∨ (x.to = y.to ∧ bitI x.neg < bitI y.neg)))
theorem cmpI_cases (x y : Int) : (x < y ∧ cmpI x y = -1) ∨ (x = y ∧ cmpI x y = 0) ∨ (y < x ∧ cmpI x y = 1) := by
  unfold cmpI
  by_cases h1 : x < y
  · left; exact ⟨h1, by rw [if_pos h1]⟩
  · by_cases h2 : y < x
    · right; right; exact ⟨h2, by rw [if_neg h1, if_pos h2]⟩
    · right; left; exact ⟨by omega, by rw [if_neg h1, if_neg h2]⟩
theorem row_lt (x y : Edg) : Go.Proofs.ltOf rowI x y = true ↔ ltE x y := by
  unfold Go.Proofs.ltOf ltE rowI
  rw [decide_eq_true_eq]
  generalize bitI x.neg = bx
  generalize bitI y.neg = bz
  rcases cmpI_cases x.fr y.fr with ⟨h1, e1⟩ | ⟨h1, e1⟩ | ⟨h1, e1⟩ <;> rcases cmpI_cases x.to y.to with ⟨h2, e2⟩ | ⟨h2, e2⟩ | ⟨h2, e2⟩ <;> rw [e1, e2] <;> simp [or3] <;> omega
theorem row_swo : SWO (Go.Proofs.ltOf rowI) where
  irrefl x := by rw [Bool.eq_false_iff, ne_eq, row_lt]; unfold ltE; omega
  trans x y z h1 h2 := by rw [row_lt] at *; unfold ltE at *; omega
  ntrans x y z h1 h2 := by rw [Bool.eq_false_iff, ne_eq, row_lt] at *; unfold ltE at *; omega
theorem row_lays (blk off size : Nat) (w : World) : Go.Proofs.CmpLays Tryz.prog 91 #[] encE 3 rowI blk off size w := fun _ _ _ _ x y => row_any x y _
theorem sort_any (blk off cap : Nat) (d : Array Edg) (w : World) (hH : HoldsK encE 3 w blk off d) (hblk : blk < w.heap.size) (hsz : d.size < 4611686018427387904) :
    Calls Tryz.prog 106 #[.slice (some ⟨blk, off, none⟩) d.size cap, .func (.func 91) #[] #[]] w fun e w' => e = .returned (.tuple #[]) ∧ ∃ d' n os, PermIn 0 d.size d d' ∧ w' = sortWorldK encE 3 w blk off n d' os := by
  have eg : ∀ args w, (callFunc 91 args).run Tryz.prog w = .ok (.enter 91 args) w := enters_of Tryz.func91 (by kernel_rfl) rfl
  have hcon := AnyQ.slices_SortFunc sortEdge 3 Tryz.isAgg114 Tryz.sizeOf114 encE (fun _ => rfl) (fun x v hv => by simp [encE] at hv; rcases hv with rfl | rfl | rfl <;> rfl) rowI row_swo 91 #[] blk off cap d w eg (row_lays blk off d.size w) hH hblk hsz
  change Calls Tryz.prog 106 _ _ _ at hcon
  exact hcon.mono fun e w' ⟨he, d', n, os, hp, _, hw⟩ => ⟨he, d', n, os, hp, hw⟩
end Go.Proofs.YtbidpeggdhkahaaGreat
