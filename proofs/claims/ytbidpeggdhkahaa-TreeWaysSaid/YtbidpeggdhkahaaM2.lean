/-
  M2: the walk of mean.Table's rest.
-/
import Derived.Test.YtbidpeggdhkahaaM1
set_option linter.unusedSimpArgs false
set_option linter.unusedVariables false
namespace Go.Proofs.Ytbidpeggdhkahaa
open Go.RowKit
attribute [local go_sem] max2_mxz max_mxz

/-- At the end of a conjunct. -/
theorem rest_end (p : Nat) (A : Option Addr) (n c : Nat) (at_ pos i j : Int) (w : World) (hp : pos = n) :
   Calls Try.prog 64 #[.pointer (some ⟨p, 0, none⟩), .slice A n c, .int .i64 at_, .int .i64 pos, .int .i64 i, .int .i64 j] w
     fun e w' => e = .returned (.int .i64 (if i = j then 1 else 0)) ∧ Below w.heap.size w w' := by
  subst hp
  by_cases h : i = j
  · subst h
    go_enter Try.func64, Try.ntmps64
    go_wp2
    go_ret
    exact ⟨by simp, Below.refl _ _⟩
  · have d : (i == j) = false := by simpa using h
    have H := Lib.hid h
    clear h
    go_enter Try.func64, Try.ntmps64
    go_wp2
    go_ret
    exact ⟨by simp [H.out], Below.refl _ _⟩

set_option maxRecDepth 100000 in
set_option maxHeartbeats 1000000 in
theorem rest_c (p : Nat) (W : ByteArray) (A : Option Addr) (n c : Nat) (at_ pos i j : Int) (w : World) (sa : Addr) (nm lo hi : Int)
   (np cp nn cn : Nat) (pb nb : Nat) (m c2 c3 : Nat) (rb : Nat) (f g : Nat → Int) (nr : Nat)
   (hA : A = some sa) (hpos : 0 ≤ pos) (hpn : pos < n) (hn : n ≤ 64)
   (hs0 : w.cell? (sa.add (pos.toNat * 3)) = some (.int .i64 nm))
   (hs1 : w.cell? ⟨(sa.add (pos.toNat * 3)).block, (sa.add (pos.toNat * 3)).off + 1, none⟩ = some (.int .i64 lo))
   (hs2 : w.cell? ⟨(sa.add (pos.toNat * 3)).block, (sa.add (pos.toNat * 3)).off + 2, none⟩ = some (.int .i64 hi))
   (hnm : 0 ≤ nm) (hnn : nm < nn) (hat : 0 ≤ at_) (hatb : at_ ≤ 100000) (hap : at_ + pos + 1 < np)
   (hw : w.cell? ⟨p, 3, none⟩ = some (.string W)) (hW : W.size ≤ 32)
   (hnames : w.cell? ⟨p, 5, none⟩ = some (.slice (some ⟨nb, 0, none⟩) nn cn))
   (hplaces : w.cell? ⟨p, 6, none⟩ = some (.slice (some ⟨pb, 0, none⟩) np cp))
   (hrow : w.cell? ⟨pb, (at_ + pos + 1).toNat, none⟩ = some (.slice (some ⟨rb, 0, none⟩) m c2))
   (hnrow : w.cell? ⟨nb, nm.toNat, none⟩ = some (.slice (some ⟨nr, 0, none⟩) m c3))
   (hi0 : 0 ≤ i) (hij : i ≤ j) (hjW : j ≤ W.size) (hm : ∀ a b : Int, 0 ≤ a → a ≤ W.size → 0 ≤ b → b ≤ W.size → a * (W.size + 1) + b < m)
   (hf : ∀ d : Nat, i + d ≤ j → w.cell? ⟨nr, (i * (W.size + 1) + (i + d)).toNat, none⟩ = some (.int .i64 (f d)))
   (hg : ∀ d : Nat, i + d ≤ j → w.cell? ⟨rb, ((i + d) * (W.size + 1) + j).toNat, none⟩ = some (.int .i64 (g d))) :
   Calls Try.prog 64 #[.pointer (some ⟨p, 0, none⟩), .slice A n c, .int .i64 at_, .int .i64 pos, .int .i64 i, .int .i64 j] w
     fun e w' => e = .returned (.int .i64 (bestTo f g (j - i + 1).toNat)) ∧ Below w.heap.size w w' := by
  subst hA
  have l1 := World.block_lt_of_cell? w _ hs0
  have l2 := World.block_lt_of_cell? w _ hw
  have l3 := World.block_lt_of_cell? w _ hplaces
  have l4 := World.block_lt_of_cell? w _ hnames
  have l5 := World.block_lt_of_cell? w _ hrow
  have l6 := World.block_lt_of_cell? w _ hnrow
  simp only at l1 l2 l3 l4 l5 l6
  have e1 : IntKind.i64.wrap (at_ + pos) = at_ + pos := IntWalk.i64_in _ (by omega)
  have e2 : IntKind.i64.wrap (at_ + pos + 1) = at_ + pos + 1 := IntWalk.i64_in _ (by omega)
  have d0 : (pos == (n : Int)) = false := by simp; omega
  have d1 : decide (nm < 0) = false := by simp; omega
  have Hm := Lib.hid hm
  have Hf := Lib.hid hf
  have Hg := Lib.hid hg
  clear hm hf hg
  go_enter Try.func64, Try.ntmps64
  go_wp2_with fail
  go_region
  clear e1 e2
  go_wp2_with fail
  go_loopw [15, 16] (fun best kk wr => ∃ d : Nat, i + d ≤ j + 1 ∧ kk = .int .i64 (i + d) ∧ best = .int .i64 (bestTo f g d) ∧ Below w.heap.size w wr ∧ wr.cell? ⟨w.heap.size, 0, none⟩ = some (.int .i64 nm))
    (fun _ kk _ => (j + 1 - intOf kk).toNat)
  case atStart =>
    exact ⟨0, by omega, by simp, rfl, ((Below.refl _ _).alloc (Nat.le_refl _) _).drew, by simp⟩
  case round =>
    obtain ⟨d, hd, rfl, rfl, hb, hc13⟩ := hrel
    by_cases hlt : i + d ≤ j
    · have b1 := below_cell hb hw
      have b2 := below_cell hb hnames
      have b3 := below_cell hb hnrow
      have b4 := below_cell hb (Hf.out d hlt)
      have b5 := below_cell hb (Hg.out d hlt)
      have q1 := Hm.out i (i + d) hi0 (by omega) (by omega) (by omega)
      have q2 := Hm.out (i + d) j (by omega) (by omega) (by omega) (by omega)
      have m1 := (mulb i W.size hi0 (by omega) hW).1
      have m2 := (mulb (i + d) W.size (by omega) (by omega) hW).1
      have n1 : 0 ≤ i * ((W.size : Int) + 1) + (i + d) := by omega
      have n2 : 0 ≤ (i + d) * ((W.size : Int) + 1) + j := by omega
      clear m1 m2
      have HB := Lib.hid hb
      clear hb
      have hst : bestTo f g (d + 1) = bestStep (bestTo f g d) (f d) (g d) := rfl
      obtain ⟨x, hx⟩ : ∃ x, x = f d := ⟨_, rfl⟩
      obtain ⟨y, hy⟩ : ∃ y, y = g d := ⟨_, rfl⟩
      obtain ⟨B, hB⟩ : ∃ B, B = bestTo f g d := ⟨_, rfl⟩
      rw [← hx, ← hy, ← hB] at hst
      rw [← hx] at b4
      rw [← hy] at b5
      rw [← hB]
      have HST := Lib.hid hst
      clear hst hx hy hB
      clear hs0 hs1 hs2 hnames hplaces hrow hnrow hw l1 l3 l4 l5 l6 Hf Hg Hm
      by_cases c1 : 0 < x
      · by_cases c2 : 0 < y
        · by_cases c3 : B = 0
          · have c3' : (B == 0) = true := by simpa using c3
            have hfin : bestStep B x y = wrap64 (1 + mxz x y) := by rw [c3]; exact bestStep_first c1 c2
            have HF := Lib.hid hfin
            clear c3 hfin
            go_wp2_with fail
            go_quiet ((go_at_call 27; exact Calls.quiet_of_same (key_q p W _ _ _ b1 hW (by omega) (by omega) (by omega) (by omega))))
            go_wp2
            go_roundw
            case rel => first | exact ⟨d + 1, by omega, by go_num, by rw [HST.out, HF.out], pw_below_drewN HB.out _, hc13⟩ | ((repeat apply Exists.intro); refine ⟨?_, rfl⟩; exact ⟨d + 1, by omega, by go_num, by rw [HST.out, HF.out], pw_below_drewN HB.out _, hc13⟩)
            case measure => simp [intOf]; omega
          · have c3' : (B == 0) = false := by simpa using c3
            by_cases c4 : wrap64 (1 + mxz x y) < B
            · have hfin : bestStep B x y = wrap64 (1 + mxz x y) := bestStep_lt c1 c2 c4
              have HF := Lib.hid hfin
              clear c3 hfin
              go_wp2_with fail
              go_quiet ((go_at_call 27; exact Calls.quiet_of_same (key_q p W _ _ _ b1 hW (by omega) (by omega) (by omega) (by omega))))
              go_wp2
              go_roundw
              case rel => first | exact ⟨d + 1, by omega, by go_num, by rw [HST.out, HF.out], pw_below_drewN HB.out _, hc13⟩ | ((repeat apply Exists.intro); refine ⟨?_, rfl⟩; exact ⟨d + 1, by omega, by go_num, by rw [HST.out, HF.out], pw_below_drewN HB.out _, hc13⟩)
              case measure => simp [intOf]; omega
            · have hfin : bestStep B x y = B := bestStep_ge c3 c4
              have HF := Lib.hid hfin
              clear c3 hfin
              go_wp2_with fail
              go_quiet ((go_at_call 27; exact Calls.quiet_of_same (key_q p W _ _ _ b1 hW (by omega) (by omega) (by omega) (by omega))))
              go_wp2
              go_roundw
              case rel => first | exact ⟨d + 1, by omega, by go_num, by rw [HST.out, HF.out], pw_below_drewN HB.out _, hc13⟩ | ((repeat apply Exists.intro); refine ⟨?_, rfl⟩; exact ⟨d + 1, by omega, by go_num, by rw [HST.out, HF.out], pw_below_drewN HB.out _, hc13⟩)
              case measure => simp [intOf]; omega
        · have hfin : bestStep B x y = B := bestStep_no2 c2
          have c2' : decide (0 < y) = false := by simpa using c2
          have HF := Lib.hid hfin
          clear hfin
          go_wp2_with fail
          go_quiet ((go_at_call 27; exact Calls.quiet_of_same (key_q p W _ _ _ b1 hW (by omega) (by omega) (by omega) (by omega))))
          go_wp2
          go_roundw
          case rel => first | exact ⟨d + 1, by omega, by go_num, by rw [HST.out, HF.out], pw_below_drewN HB.out _, hc13⟩ | ((repeat apply Exists.intro); refine ⟨?_, rfl⟩; exact ⟨d + 1, by omega, by go_num, by rw [HST.out, HF.out], pw_below_drewN HB.out _, hc13⟩)
          case measure => simp [intOf]; omega
      · have hfin : bestStep B x y = B := bestStep_no c1
        have c1' : decide (0 < x) = false := by simpa using c1
        have HF := Lib.hid hfin
        clear hfin
        go_wp2_with fail
        go_quiet ((go_at_call 27; exact Calls.quiet_of_same (key_q p W _ _ _ b1 hW (by omega) (by omega) (by omega) (by omega))))
        go_wp2
        go_roundw
        case rel => first | exact ⟨d + 1, by omega, by go_num, by rw [HST.out, HF.out], pw_below_drewN HB.out _, hc13⟩ | ((repeat apply Exists.intro); refine ⟨?_, rfl⟩; exact ⟨d + 1, by omega, by go_num, by rw [HST.out, HF.out], pw_below_drewN HB.out _, hc13⟩)
        case measure => simp [intOf]; omega
    · have hdj : (j - i + 1).toNat = d := by omega
      have HD := Lib.hid hdj
      have HB := Lib.hid hb
      clear hdj hb hs0 hs1 hs2 hnames hplaces hrow hnrow hw l1 l3 l4 l5 l6 Hf Hg Hm
      go_wp2
      go_ret
      exact ⟨by rw [HD.out]; rfl, HB.out⟩

set_option maxRecDepth 100000 in
set_option maxHeartbeats 2000000 in
theorem rest_b (p : Nat) (W : ByteArray) (A : Option Addr) (n c : Nat) (at_ pos i j : Int) (w : World) (sa : Addr) (nm lo hi : Int)
   (np cp : Nat) (pb : Nat) (m c2 : Nat) (rb : Nat) (y : Int)
   (hA : A = some sa) (hpos : 0 ≤ pos) (hpn : pos < n) (hn : n ≤ 64)
   (hs0 : w.cell? (sa.add (pos.toNat * 3)) = some (.int .i64 nm))
   (hs1 : w.cell? ⟨(sa.add (pos.toNat * 3)).block, (sa.add (pos.toNat * 3)).off + 1, none⟩ = some (.int .i64 lo))
   (hs2 : w.cell? ⟨(sa.add (pos.toNat * 3)).block, (sa.add (pos.toNat * 3)).off + 2, none⟩ = some (.int .i64 hi))
   (hnm : nm < 0) (hat : 0 ≤ at_) (hatb : at_ ≤ 100000) (hap : at_ + pos + 1 < np)
   (hw : w.cell? ⟨p, 3, none⟩ = some (.string W)) (hW : W.size ≤ 32)
   (hplaces : w.cell? ⟨p, 6, none⟩ = some (.slice (some ⟨pb, 0, none⟩) np cp))
   (hrow : w.cell? ⟨pb, (at_ + pos + 1).toNat, none⟩ = some (.slice (some ⟨rb, 0, none⟩) m c2))
   (hi0 : 0 ≤ i) (hij : i ≤ j) (hjW : j ≤ W.size) (hm : ∀ a b : Int, 0 ≤ a → a ≤ W.size → 0 ≤ b → b ≤ W.size → a * (W.size + 1) + b < m)
   (hg : i < j → w.cell? ⟨rb, ((i + 1) * (W.size + 1) + j).toNat, none⟩ = some (.int .i64 y)) :
   Calls Try.prog 64 #[.pointer (some ⟨p, 0, none⟩), .slice A n c, .int .i64 at_, .int .i64 pos, .int .i64 i, .int .i64 j] w
     fun e w' => e = .returned (.int .i64 (if i < j ∧ lo ≤ btz W i ∧ btz W i ≤ hi ∧ 0 < y then wrap64 (y + 1) else 0)) ∧ Below w.heap.size w w' := by
  subst hA
  have l1 := World.block_lt_of_cell? w _ hs0
  have l2 := World.block_lt_of_cell? w _ hw
  have l3 := World.block_lt_of_cell? w _ hplaces
  have l5 := World.block_lt_of_cell? w _ hrow
  simp only at l1 l2 l3 l5
  have e1 : IntKind.i64.wrap (at_ + pos) = at_ + pos := IntWalk.i64_in _ (by omega)
  have e2 : IntKind.i64.wrap (at_ + pos + 1) = at_ + pos + 1 := IntWalk.i64_in _ (by omega)
  have d0 : (pos == (n : Int)) = false := by simp; omega
  have d1 : decide (nm < 0) = true := by simp; omega
  have bb := btz_range W i
  have b1 := bb.1
  have b2 := bb.2
  clear bb
  have hbt := btz_at W i
  generalize btz W i = B at hbt b1 b2 ⊢
  have Hm := Lib.hid hm
  clear hm
  by_cases c1 : i < j
  · have hgr := hg c1
    have l6 := World.block_lt_of_cell? w _ hgr
    simp only at l6
    have q2 := Hm.out (i + 1) j (by omega) (by omega) (by omega) (by omega)
    have m2 := (mulb (i + 1) W.size (by omega) (by omega) hW).1
    have n2 : 0 ≤ (i + 1) * ((W.size : Int) + 1) + j := by omega
    have hit : i.toNat < W.size := by omega
    have hitz : i < (W.size : Int) := by omega
    clear m2 Hm hg
    have HB := Lib.hid (show Below w.heap.size w (w.alloc (Obj.cells #[Value.int IntKind.i64 nm, Value.int IntKind.i64 lo, Value.int IntKind.i64 hi] 44)).drew from ((Below.refl _ _).alloc (Nat.le_refl _) _).drew)
    have g0 : (w.alloc (Obj.cells #[Value.int IntKind.i64 nm, Value.int IntKind.i64 lo, Value.int IntKind.i64 hi] 44)).drew.cell? ⟨w.heap.size, 0, none⟩ = some (.int .i64 nm) := by simp
    have g1 : (w.alloc (Obj.cells #[Value.int IntKind.i64 nm, Value.int IntKind.i64 lo, Value.int IntKind.i64 hi] 44)).drew.cell? ⟨w.heap.size, 1, none⟩ = some (.int .i64 lo) := by simp
    have g2 : (w.alloc (Obj.cells #[Value.int IntKind.i64 nm, Value.int IntKind.i64 lo, Value.int IntKind.i64 hi] 44)).drew.cell? ⟨w.heap.size, 2, none⟩ = some (.int .i64 hi) := by simp
    have gw := below_cell HB.out hw
    have gr := below_cell HB.out hgr
    have e3 : IntKind.i64.wrap B = B := IntWalk.i64_in _ (by omega)
    have e4 : IntKind.i64.wrap (i + 1) = i + 1 := IntWalk.i64_in _ (by omega)
    by_cases c2 : lo ≤ B
    · by_cases c3 : B ≤ hi
      · by_cases c4 : 0 < y
        · have hfin : (if i < j ∧ lo ≤ B ∧ B ≤ hi ∧ 0 < y then wrap64 (y + 1) else 0) = wrap64 (y + 1) := if_pos ⟨c1, c2, c3, c4⟩
          rw [hfin]
          clear hfin
          go_enter Try.func64, Try.ntmps64
          go_wp2_with fail
          go_region
          clear e1 e2
          go_wp2_with fail
          generalize (w.alloc (Obj.cells #[Value.int IntKind.i64 nm, Value.int IntKind.i64 lo, Value.int IntKind.i64 hi] 44)).drew = w1 at HB g0 g1 g2 gw gr ⊢
          go_quiet ((go_at_call 27; exact Calls.quiet_of_same (key_q p W _ _ _ gw hW (by omega) (by omega) (by omega) (by omega))))
          clear e3 e4
          go_wp2_with (go_at_call 27; refine (key_any p W _ _ _ (by assumption) hW (by omega) (by omega) (by omega) (by omega)).mono ?_; rintro e w' ⟨rfl, rfl⟩)
          go_ret
          exact ⟨rfl, pw_below_drewN HB.out _⟩
        · have hfin : (if i < j ∧ lo ≤ B ∧ B ≤ hi ∧ 0 < y then wrap64 (y + 1) else 0) = 0 := if_neg (fun h => c4 (by omega))
          rw [hfin]
          clear hfin
          have d9 : decide (0 < y) = false := decide_eq_false c4
          clear c4
          go_enter Try.func64, Try.ntmps64
          go_wp2_with fail
          go_region
          clear e1 e2
          go_wp2_with fail
          generalize (w.alloc (Obj.cells #[Value.int IntKind.i64 nm, Value.int IntKind.i64 lo, Value.int IntKind.i64 hi] 44)).drew = w1 at HB g0 g1 g2 gw gr ⊢
          go_quiet ((go_at_call 27; exact Calls.quiet_of_same (key_q p W _ _ _ gw hW (by omega) (by omega) (by omega) (by omega))))
          clear e3 e4
          go_wp2
          go_ret
          exact ⟨rfl, pw_below_drewN HB.out _⟩
      · have hfin : (if i < j ∧ lo ≤ B ∧ B ≤ hi ∧ 0 < y then wrap64 (y + 1) else 0) = 0 := if_neg (fun h => c3 (by omega))
        rw [hfin]
        clear hfin
        have d9 : decide (B ≤ hi) = false := decide_eq_false c3
        clear c3
        go_enter Try.func64, Try.ntmps64
        go_wp2_with fail
        go_region
        clear e1 e2
        go_wp2_with fail
        generalize (w.alloc (Obj.cells #[Value.int IntKind.i64 nm, Value.int IntKind.i64 lo, Value.int IntKind.i64 hi] 44)).drew = w1 at HB g0 g1 g2 gw gr ⊢
        go_quiet (fail)
        clear e3 e4
        go_wp2
        go_ret
        exact ⟨rfl, pw_below_drewN HB.out _⟩
    · have hfin : (if i < j ∧ lo ≤ B ∧ B ≤ hi ∧ 0 < y then wrap64 (y + 1) else 0) = 0 := if_neg (fun h => c2 (by omega))
      rw [hfin]
      clear hfin
      have d9 : decide (lo ≤ B) = false := decide_eq_false c2
      clear c2
      go_enter Try.func64, Try.ntmps64
      go_wp2_with fail
      go_region
      clear e1 e2
      go_wp2_with fail
      generalize (w.alloc (Obj.cells #[Value.int IntKind.i64 nm, Value.int IntKind.i64 lo, Value.int IntKind.i64 hi] 44)).drew = w1 at HB g0 g1 g2 gw gr ⊢
      go_quiet (fail)
      clear e3 e4
      go_wp2
      go_ret
      exact ⟨rfl, pw_below_drewN HB.out _⟩
  · have HB := Lib.hid (show Below w.heap.size w (w.alloc (Obj.cells #[Value.int IntKind.i64 nm, Value.int IntKind.i64 lo, Value.int IntKind.i64 hi] 44)).drew from ((Below.refl _ _).alloc (Nat.le_refl _) _).drew)
    have g0 : (w.alloc (Obj.cells #[Value.int IntKind.i64 nm, Value.int IntKind.i64 lo, Value.int IntKind.i64 hi] 44)).drew.cell? ⟨w.heap.size, 0, none⟩ = some (.int .i64 nm) := by simp
    have g1 : (w.alloc (Obj.cells #[Value.int IntKind.i64 nm, Value.int IntKind.i64 lo, Value.int IntKind.i64 hi] 44)).drew.cell? ⟨w.heap.size, 1, none⟩ = some (.int .i64 lo) := by simp
    have g2 : (w.alloc (Obj.cells #[Value.int IntKind.i64 nm, Value.int IntKind.i64 lo, Value.int IntKind.i64 hi] 44)).drew.cell? ⟨w.heap.size, 2, none⟩ = some (.int .i64 hi) := by simp
    have gw := below_cell HB.out hw
    clear hg Hm
    have hfin : (if i < j ∧ lo ≤ B ∧ B ≤ hi ∧ 0 < y then wrap64 (y + 1) else 0) = 0 := if_neg (fun h => c1 (by omega))
    rw [hfin]
    clear hfin
    have d9 : decide (i < j) = false := decide_eq_false c1
    clear c1
    go_enter Try.func64, Try.ntmps64
    go_wp2_with fail
    go_region
    clear e1 e2
    go_wp2_with fail
    generalize (w.alloc (Obj.cells #[Value.int IntKind.i64 nm, Value.int IntKind.i64 lo, Value.int IntKind.i64 hi] 44)).drew = w1 at HB g0 g1 g2 gw ⊢
    go_quiet (fail)
    go_wp2
    go_ret
    exact ⟨rfl, pw_below_drewN HB.out _⟩
end Go.Proofs.Ytbidpeggdhkahaa
