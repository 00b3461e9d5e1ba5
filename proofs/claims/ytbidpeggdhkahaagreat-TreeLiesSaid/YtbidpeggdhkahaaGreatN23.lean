/-
  N22: the document's own far, way: a way along a ring ends.
  N23: the document's own levels and table of any grammar and text: what is refused, too.
-/
import Derived.Test.YtbidpeggdhkahaaGreatN20
import Derived.Test.YtbidpeggdhkahaaGreatN21
import Derived.Test.YtbidpeggdhkahaaGreatT5
import Derived.Deep.RegionHeld3
set_option linter.unusedSimpArgs false
set_option linter.unusedVariables false
namespace Go.Proofs.YtbidpeggdhkahaaGreat
open Go.RowKit

theorem VRow.upd {w w' : World} {g S : Nat} {f : Nat → Value} {R : Nat → Prop} (h : VRow w g S f) (hu : Upd R w w') (hn : ¬ R g) : VRow w' g S f := fun p hp => ⟨hu.cell (h p hp).1 hn, by
  have hb := hu.block g (World.block_lt_of_cell? w _ (h p hp).1) hn
  have h2 := (h p hp).2
  unfold World.frozen? at h2 ⊢
  simp only at h2 ⊢
  rw [hb]
  exact h2⟩
/-- A round of far, so far. -/
structure FaFd (es : List Edg) (r0 : Nat) (d0 : Nat → Int) (i : Nat) (d1 : Nat → Int) : Prop where
  keep : ∀ j, 0 ≤ d0 j → d1 j = d0 j
  new : ∀ j, d0 j < 0 → d1 j = -1 ∨ (d1 j = r0 + 1 ∧ ∃ e ∈ es, e.fr = j ∧ d0 e.to = r0)
  done : ∀ e ∈ es.take i, d0 e.to = r0 → 0 ≤ d1 e.fr
theorem FaFd.skip {es : List Edg} {r0 i : Nat} {d0 d1 : Nat → Int} (h : FaFd es r0 d0 i d1) {y : Edg} (hy : es[i]? = some y) (hc : ¬ (d1 y.fr < 0 ∧ d1 y.to = r0)) : FaFd es r0 d0 (i + 1) d1 := by
  refine ⟨h.keep, h.new, fun e he hz => ?_⟩
  rw [take_snoc hy] at he
  rcases List.mem_append.1 he with he | he
  · exact h.done e he hz
  · rw [List.mem_singleton.1 he] at hz ⊢
    have := h.keep y.to (by omega)
    omega
theorem FaFd.put {es : List Edg} {r0 i : Nat} {d0 d1 : Nat → Int} (h : FaFd es r0 d0 i d1) {y : Edg} (hy : es[i]? = some y) (h1 : d1 y.fr < 0) (h2 : d1 y.to = r0) : FaFd es r0 d0 (i + 1) (fun p => if p = y.fr then (r0 : Int) + 1 else d1 p) := by
  have h0 : d0 y.fr < 0 := by
    by_cases hh : 0 ≤ d0 y.fr
    · have := h.keep _ hh; omega
    · omega
  have ht : d0 y.to = r0 := by
    by_cases hh : 0 ≤ d0 y.to
    · have := h.keep _ hh; omega
    · rcases h.new y.to (by omega) with e | ⟨e, -⟩ <;> omega
  refine ⟨fun j hj => ?_, fun j hj => ?_, fun e he hz => ?_⟩
  · try simp only
    split
    · rename_i e; subst e; omega
    · exact h.keep j hj
  · try simp only
    split
    · rename_i e; subst e; exact .inr ⟨rfl, y, List.mem_of_getElem? hy, rfl, ht⟩
    · exact h.new j hj
  · rw [take_snoc hy] at he
    try simp only
    split
    · omega
    · rename_i hne
      rcases List.mem_append.1 he with he | he
      · exact h.done e he hz
      · rw [List.mem_singleton.1 he] at hne
        exact absurd rfl hne
theorem FaFd.all {K : Nat} {es : List Edg} {to' r0 : Nat} {d0 d1 : Nat → Int} (hE : EdgesIn K es) (I : FarInv K es to' r0 d0) (h : FaFd es r0 d0 es.length d1) : FarInv K es to' (r0 + 1) d1 :=
  far_round hE I h.keep h.new (fun e he => h.done e (by rw [List.take_length]; exact he))
def Fa1 (w : World) (K g : Nat) (cnt : Value) (wr : World) : Prop := ∃ i : Nat, cnt = .int .i64 i ∧ i ≤ K ∧ VRow wr g K (iV (fun p => if p < i then -1 else 0)) ∧ Below w.heap.size w wr
def Fa2 (w : World) (K : Nat) (es : List Edg) (to' g : Nat) (cnt : Value) (wr : World) : Prop := ∃ (r : Nat) (d : Nat → Int), cnt = .int .i64 ((r : Int) + 1) ∧ r ≤ K ∧ VRow wr g K (iV d) ∧ FarInv K es to' r d ∧ Below w.heap.size w wr
def Fa3 (w : World) (K : Nat) (es : List Edg) (g r : Nat) (d0 : Nat → Int) (cnt : Value) (wr : World) : Prop := ∃ (i : Nat) (d : Nat → Int), cnt = .int .i64 i ∧ i ≤ es.length ∧ VRow wr g K (iV d) ∧ FaFd es r d0 i d ∧ Below w.heap.size w wr
def FarPost (w : World) (K : Nat) (es : List Edg) (to' : Nat) (e : Ending) (w' : World) : Prop := ∃ (g : Nat) (d : Nat → Int), e = .returned (.slice (some ⟨g, 0, none⟩) K K) ∧ w.heap.size ≤ g ∧ VRow w' g K (iV d) ∧ FarInv K es to' K d ∧ Below w.heap.size w w'

set_option maxRecDepth 100000 in
set_option maxHeartbeats 8000000 in
theorem rfar_good {w : World} {K : Nat} {es : List Edg} {A : Option Addr} {c : Nat} (hK : K ≤ 64) (hE : EdgesIn K es) (hC : edgRd.C w A es) (hl : es.length ≤ 10000) {to' : Nat} (ht : to' < K) :
    Calls Tryz.prog 64 #[.int .i64 K, .slice A es.length c, .int .i64 to'] w (FarPost w K es to') := by
  have hmk := mkw_run K (by omega)
  have hti : (to' : Int) < K := by omega
  have h0 := heap_alloc_new w (zRow K)
  have HV := Lib.hid (VRow.made h0)
  have HB := Lib.hid (below_alloc' (below_refl w) (zRow K))
  clear h0
  go_enter Tryz.func64, Tryz.ntmps64
  go_wp2_with fail
  clear hmk
  obtain ⟨g, hg⟩ : ∃ g, g = w.heap.size := ⟨_, rfl⟩
  have HGW := Lib.hid (show w.heap.size ≤ g by omega)
  rw [← hg] at HV ⊢
  clear hg
  generalize w.alloc (zRow K) = w1 at HV HB ⊢
  go_loopw [8] (fun cnt wr => Fa1 w K g cnt wr) (fun cnt _ => K - (intOf cnt).toNat)
  case atStart => exact ⟨0, rfl, Nat.zero_le _, HV.out.congr (fun p _ => by unfold iV; simp), HB.out⟩
  case round =>
    clear HV HB
    obtain ⟨i, rfl, hi, hv, hb⟩ := hrel
    have HV := Lib.hid hv
    have HB := Lib.hid hb
    clear hv hb
    by_cases hlt : i < K
    · have b1 : (i : Int) < K := by omega
      have x0 := (HV.out i hlt).1
      have x1 := (HV.out i hlt).2
      unfold iV at x0
      go_wp2_with fail
      go_roundw
      case rel => exact ⟨i + 1, by go_num, by omega, (HV.out.set hlt (.int .i64 (-1))).congr (fun p _ => by unfold iV; by_cases e : p = i <;> by_cases e2 : p < i <;> simp [e, e2] <;> omega), below_setNew HB.out HGW.out _⟩
      case measure => simp [intOf]; omega
    · have hie : i = K := by omega
      have HV' := Lib.hid (HV.out.congr (f' := iV (fun _ => -1)) (fun p hp => by unfold iV; simp [hie, hp]))
      have x0 := (HV'.out to' ht).1
      have x1 := (HV'.out to' ht).2
      unfold iV at x0
      have HV2 := Lib.hid ((HV'.out.set ht (.int .i64 0)).congr (f' := iV (fun j => if j = to' then 0 else -1)) (fun p hp => by unfold iV; by_cases e : p = to' <;> simp [e]))
      have HB2 := Lib.hid (below_setNew HB.out (p := ⟨g, to', none⟩) HGW.out (.int .i64 0))
      have b1 : ¬ ((i : Int) < K) := by omega
      clear hie HV HB HV'
      go_wp2_with fail
      clear x0 x1 b1
      generalize wr.setCell ⟨g, to', none⟩ (.int .i64 0) = w2 at HV2 HB2 ⊢
      go_loopw [9] (fun cnt wi => Fa2 w K es to' g cnt wi) (fun cnt _ => (K + 1 - intOf cnt).toNat)
      case atStart => exact ⟨0, _, rfl, Nat.zero_le _, HV2.out, far_start ht, HB2.out⟩
      case round =>
        clear HV2 HB2
        obtain ⟨r, d, rfl, hr, hv, hi2, hb⟩ := hrel
        have HV := Lib.hid hv
        have HI := Lib.hid hi2
        have HB := Lib.hid hb
        clear hv hi2 hb
        by_cases hlt : r < K
        · have b1 : decide ((r : Int) + 1 ≤ (K : Int)) = true := decide_eq_true (by omega)
          go_wp2_with fail
          go_loopw [10] (fun cnt wi => Fa3 w K es g r d cnt wi) (fun cnt _ => es.length - (intOf cnt).toNat)
          case atStart => exact ⟨0, d, rfl, Nat.zero_le _, HV.out, ⟨fun _ _ => rfl, fun j hj => .inl (by have := HI.out.low j; omega), fun e he => by cases he⟩, HB.out⟩
          case round =>
            clear HV HB
            obtain ⟨q, d1, rfl, hq, hv, hf, hb⟩ := hrel
            have HV := Lib.hid hv
            have HF := Lib.hid hf
            have HB := Lib.hid hb
            clear hv hf hb
            by_cases hltq : q < es.length
            · obtain ⟨y, hy⟩ : ∃ y, es[q]? = some y := ⟨_, List.getElem?_eq_getElem hltq⟩
              obtain ⟨ad, eA, -, q0, q1, q2⟩ := edg_at (hC.mono HB.out) hy
              subst eA
              have hki : (q : Int) < es.length := by omega
              have hin := hE y (List.mem_of_getElem? hy)
              have f1' : (y.fr : Int) < K := by have := hin.1; omega
              have f2' : (y.to : Int) < K := by have := hin.2; omega
              have x0 := (HV.out y.fr hin.1).1
              have x1 := (HV.out y.fr hin.1).2
              have x2 := (HV.out y.to hin.2).1
              unfold iV at x0 x2
              have HFR := Lib.hid hin.1
              have HY := Lib.hid hy
              obtain ⟨vf, hvf⟩ : ∃ vf, vf = d1 y.fr := ⟨_, rfl⟩
              obtain ⟨vt, hvt⟩ : ∃ vt, vt = d1 y.to := ⟨_, rfl⟩
              rw [← hvf] at x0
              rw [← hvt] at x2
              have HVF := Lib.hid hvf
              have HVT := Lib.hid hvt
              clear hy hin hvf hvt
              by_cases c1 : vf < 0
              · have e1 : decide (vf < 0) = true := decide_eq_true c1
                by_cases c2 : vt = r
                · have e2 : (vt == (r : Int)) = true := by simp [c2]
                  have HP := Lib.hid (HF.out.put HY.out (by rw [← HVF.out]; exact c1) (by rw [← HVT.out]; exact c2))
                  have HVS := Lib.hid ((HV.out.set HFR.out (.int .i64 ((r : Int) + 1))).congr (f' := iV (fun p => if p = y.fr then (r : Int) + 1 else d1 p)) (fun p _ => by unfold iV; by_cases e : p = y.fr <;> simp [e]))
                  clear c1 c2
                  go_wp2_with fail
                  go_roundw
                  case rel => exact ⟨q + 1, _, by go_num, by omega, HVS.out, HP.out, below_setNew HB.out HGW.out _⟩
                  case measure => simp [intOf]; omega
                · have e2 : (vt == (r : Int)) = false := by simp [c2]
                  have HP := Lib.hid (HF.out.skip HY.out (by rw [← HVT.out]; exact fun h => c2 h.2))
                  clear c1 c2
                  go_wp2_with fail
                  go_roundw
                  case rel => exact ⟨q + 1, d1, by go_num, by omega, HV.out, HP.out, HB.out⟩
                  case measure => simp [intOf]; omega
              · have e1 : decide (vf < 0) = false := decide_eq_false c1
                have HP := Lib.hid (HF.out.skip HY.out (by rw [← HVF.out]; exact fun h => c1 h.1))
                clear c1
                go_wp2_with fail
                go_roundw
                case rel => exact ⟨q + 1, d1, by go_num, by omega, HV.out, HP.out, HB.out⟩
                case measure => simp [intOf]; omega
            · have hie : q = es.length := by omega
              subst hie
              have HN := Lib.hid (HF.out.all hE HI.out)
              go_wp2_with fail
              go_roundw
              case rel => exact ⟨r + 1, d1, by go_num, by omega, HV.out, HN.out, HB.out⟩
              case measure => simp [intOf]; omega
        · have hre : r = K := by omega
          subst hre
          have b1 : decide ((r : Int) + 1 ≤ (r : Int)) = false := decide_eq_false (by omega)
          go_wp2_with fail
          go_ret
          exact ⟨g, d, rfl, HGW.out, HV.out, HI.out, HB.out⟩

def Wy1 (w : World) (K g : Nat) (d : Nat → Int) (out at_ : Value) (wr : World) : Prop := ∃ (a : Nat) (v : Value) (xs : List Int), out = v ∧ at_ = .int .i64 a ∧ a < K ∧ 0 ≤ d a ∧ (xs.length : Int) + d a ≤ K ∧ Own Rd.int 3 (g + 1) wr v xs ∧ VRow wr g K (iV d) ∧ Below w.heap.size w wr
def Wy2 (w : World) (es : List Edg) (K g : Nat) (d : Nat → Int) (v : Value) (xs : List Int) (a : Nat) (best cnt : Value) (wr : World) : Prop := ∃ (i : Nat) (b : Int), cnt = .int .i64 i ∧ best = .int .i64 b ∧ i ≤ es.length ∧ ((b = -1 ∧ ∀ e ∈ es.take i, e.fr = a → d e.to ≠ d a - 1) ∨ (0 ≤ b ∧ b < K ∧ d b.toNat = d a - 1)) ∧ Own Rd.int 3 (g + 1) wr v xs ∧ VRow wr g K (iV d) ∧ Below w.heap.size w wr
def WayPost6 (w : World) (K : Nat) (e : Ending) (w' : World) : Prop := ∃ (v : Value) (xs : List Int), e = .returned v ∧ Own Rd.int 3 w.heap.size w' v xs ∧ xs.length ≤ K ∧ Below w.heap.size w w'
def atD (d : Nat → Int) (v : Value) : Nat := (d (intOf v).toNat).toNat

set_option maxRecDepth 100000 in
set_option maxHeartbeats 16000000 in
theorem rway_good {w : World} {K : Nat} {es : List Edg} {A : Option Addr} {c : Nat} (hK : K ≤ 64) (hE : EdgesIn K es) (hC : edgRd.C w A es) (hl : es.length ≤ 10000) {fr to' : Nat} (hf : fr < K) (ht : to' < K) (hP : Path es fr to') :
    Calls Tryz.prog 42 #[.int .i64 K, .slice A es.length c, .int .i64 fr, .int .i64 to'] w (WayPost6 w K) := by
  have HF := Lib.hid (rfar_good (c := c) hK hE hC hl ht)
  go_enter Tryz.func42, Tryz.ntmps42
  go_wp2_with (first | (go_at_call 64; refine HF.out.mono ?_; rintro e w1 ⟨g, d, rfl, hg, hv, hi, hb⟩; have HGW := Lib.hid hg; have HV := Lib.hid hv; have HI := Lib.hid hi; have HB := Lib.hid hb; clear hg hv hi hb) | fail)
  have hd0 := far_end HI.out hP
  have hdK : d fr ≤ K := HI.out.high fr
  go_loopw [10, 11] (fun out at_ wr => Wy1 w K g d out at_ wr) (fun _ at_ _ => atD d at_)
  case atStart => exact ⟨fr, _, [], rfl, rfl, hf, hd0, by simp; exact hdK, Own.nil _ _ _ _, HV.out, HB.out⟩
  case round =>
    clear HV HB
    obtain ⟨a, v, xs, rfl, rfl, ha, ha0, hx, ho, hv, hb⟩ := hrel
    have HV := Lib.hid hv
    have HB := Lib.hid hb
    obtain ⟨Ao, co, rfl, -, -, -⟩ := id ho.shape
    have HO := Lib.hid ho
    clear hv hb ho
    by_cases hae : a = to'
    · have t0 : (((a : Nat) : Int) != (to' : Int)) = false := by simp [hae]
      clear hae
      go_wp2_with fail
      go_ret
      exact ⟨_, xs, rfl, HO.out.lower (by have := HGW.out; omega), by omega, HB.out⟩
    · have t0 : (((a : Nat) : Int) != (to' : Int)) = true := by simp; omega
      have hda : 0 < d a := by
        by_cases h : d a = 0
        · exact absurd (HI.out.zero a h) hae
        · omega
      have hgw : g < wr.heap.size := World.block_lt_of_cell? wr _ (HV.out a ha).1
      clear hae
      go_wp2_with (first | (at_builtin; refine wpList_append_one (d := Rd.int) rfl (base := g + 1) (.tmp 22) (.tmp 24) 84 3 _ 8 (by rfl) Tryz.underlying84 infoInt (by rfl) (by decide) (v := .slice Ao xs.length co) (xs := xs) (by rfl) (HO.out.below (below_alloc' (below_refl _) _)) (a : Int) #[.int .i64 a] (fun _ _ => rfl) (b := wr.heap.size) (c := 1) (by rfl) (heap_alloc_new wr _) (by omega) (by decide) (by simp; omega) ?_; intro v5 w5 o5 g5 t5; obtain ⟨A5, k5, rfl, -, -, -⟩ := id o5.shape; have O5 := Lib.hid o5; have G5 := Lib.hid g5; clear o5 g5 t5) | fail)
      have HB5 := Lib.hid (below_grown (below_alloc' HB.out _) G5.out (by intro b hb; have := (HO.out.base hb).1; have := HGW.out; omega))
      have HV5 := Lib.hid ((HV.out.below (below_alloc' (below_refl wr) (Obj.cells #[.int .i64 (a : Int)] 3))).upd (Upd.of_grown G5.out) (fun e => by have := (HO.out.base e).1; omega))
      obtain ⟨ys, hys⟩ : ∃ ys, ys = xs ++ [(a : Int)] := ⟨_, rfl⟩
      have hyl : ys.length = xs.length + 1 := by rw [hys]; simp
      rw [← hys] at O5
      rw [← hyl]
      have HYL := Lib.hid hyl
      clear G5 HO HV HB hys hyl
      go_loopw [12, 13] (fun best cnt wi => Wy2 w es K g d (.slice A5 ys.length k5) ys a best cnt wi) (fun _ cnt _ => es.length - (intOf cnt).toNat)
      case atStart => exact ⟨0, -1, rfl, rfl, Nat.zero_le _, .inl ⟨rfl, fun e he => by cases he⟩, O5.out, HV5.out, HB5.out⟩
      case round =>
        clear O5 HV5 HB5
        obtain ⟨i, b, rfl, rfl, hi, hor, ho, hv, hb⟩ := hrel
        have HO := Lib.hid ho
        have HV := Lib.hid hv
        have HB := Lib.hid hb
        have HOR := Lib.hid hor
        clear ho hv hb hor
        by_cases hlt : i < es.length
        · obtain ⟨y, hy⟩ : ∃ y, es[i]? = some y := ⟨_, List.getElem?_eq_getElem hlt⟩
          obtain ⟨ad, eA, -, q0, q1, q2⟩ := edg_at (hC.mono HB.out) hy
          subst eA
          have hki : (i : Int) < es.length := by omega
          have hin := hE y (List.mem_of_getElem? hy)
          have f1' : (y.to : Int) < K := by have := hin.2; omega
          have f2' : (a : Int) < K := by omega
          have x0 := (HV.out y.to hin.2).1
          have x1 := (HV.out a ha).1
          unfold iV at x0 x1
          have HY := Lib.hid hy
          have HTO := Lib.hid hin.2
          obtain ⟨vt, hvt⟩ : ∃ vt, vt = d y.to := ⟨_, rfl⟩
          obtain ⟨va, hva⟩ : ∃ va, va = d a := ⟨_, rfl⟩
          rw [← hvt] at x0
          rw [← hva] at x1
          have bva : 0 < va ∧ va ≤ 64 := by rw [hva]; have := HI.out.high a; omega
          have e1 : IntKind.i64.wrap (va - 1) = va - 1 := IntWalk.i64_in _ (by omega)
          have Q0 := Lib.hid q0
          have Q1 := Lib.hid q1
          have X0 := Lib.hid x0
          have X1 := Lib.hid x1
          have HVT := Lib.hid hvt
          have HVA := Lib.hid hva
          clear hy hin hvt hva q0 q1 q2 x0 x1
          cases c1 : ((y.fr : Int) == (a : Int)) with
          | false =>
            have HS := Lib.hid (show (b = -1 ∧ ∀ e ∈ es.take (i + 1), e.fr = a → d e.to ≠ d a - 1) ∨ (0 ≤ b ∧ b < K ∧ d b.toNat = d a - 1) from by
              rcases HOR.out with ⟨h1, h2⟩ | h
              · refine .inl ⟨h1, fun e he hea => ?_⟩
                rw [take_snoc HY.out] at he
                rcases List.mem_append.1 he with he | he
                · exact h2 e he hea
                · rw [List.mem_singleton.1 he] at hea
                  rw [hea] at c1
                  simp at c1
              · exact .inr h)
            go_wp2_with fail
            refine wp_region_below (by kernel_rfl) (by kernel_rfl) ?_
            repeat (first
              | (refine qv_skip (by rfl) ?_; simp only [Act.put, List.setIfInBounds_toArray, List.set_cons_zero, List.set_cons_succ])
              | (refine qv_val' (by rfl) ?_; apply Exists.intro; refine ⟨fun w5 hC => ?_, ?_⟩; (have qqr0 := below_cell hC Q0.out; have qqr1 := below_cell hC Q1.out; have qqr2 := below_cell hC X0.out; have qqr3 := below_cell hC X1.out; go_simp; rfl); simp only [Act.put, List.setIfInBounds_toArray, List.set_cons_zero, List.set_cons_succ]))
            refine qv_nil ?_
            intro w5 hC
            have HB5 := Lib.hid hC
            clear hC e1
            go_wp2_with fail
            go_roundw
            case rel => exact ⟨i + 1, b, by go_num, rfl, by omega, HS.out, HO.out.below HB5.out, HV.out.below HB5.out, below_trans HB.out HB5.out⟩
            case measure => simp [intOf]; omega
          | true =>
            have hfa : y.fr = a := (by have h : (y.fr : Int) = (a : Int) := (by simpa using c1); omega)
            cases c2 : (vt == va - 1) with
            | false =>
              have HS := Lib.hid (show (b = -1 ∧ ∀ e ∈ es.take (i + 1), e.fr = a → d e.to ≠ d a - 1) ∨ (0 ≤ b ∧ b < K ∧ d b.toNat = d a - 1) from by
                rcases HOR.out with ⟨h1, h2⟩ | h
                · refine .inl ⟨h1, fun e he hea => ?_⟩
                  rw [take_snoc HY.out] at he
                  rcases List.mem_append.1 he with he | he
                  · exact h2 e he hea
                  · rw [List.mem_singleton.1 he]
                    rw [HVT.out, HVA.out] at c2
                    simpa using c2
                · exact .inr h)
              clear hfa
              go_wp2_with fail
              refine wp_region_below (by kernel_rfl) (by kernel_rfl) ?_
              repeat (first
                | (refine qv_skip (by rfl) ?_; simp only [Act.put, List.setIfInBounds_toArray, List.set_cons_zero, List.set_cons_succ])
                | (refine qv_val' (by rfl) ?_; apply Exists.intro; refine ⟨fun w5 hC => ?_, ?_⟩; (have qqr0 := below_cell hC Q0.out; have qqr1 := below_cell hC Q1.out; have qqr2 := below_cell hC X0.out; have qqr3 := below_cell hC X1.out; go_simp; rfl); simp only [Act.put, List.setIfInBounds_toArray, List.set_cons_zero, List.set_cons_succ]))
              refine qv_nil ?_
              intro w5 hC
              have HB5 := Lib.hid hC
              clear hC e1
              go_wp2_with fail
              go_roundw
              case rel => exact ⟨i + 1, b, by go_num, rfl, by omega, HS.out, HO.out.below HB5.out, HV.out.below HB5.out, below_trans HB.out HB5.out⟩
              case measure => simp [intOf]; omega
            | true =>
              have HPT := Lib.hid (show 0 ≤ (y.to : Int) ∧ (y.to : Int) < K ∧ d (y.to : Int).toNat = d a - 1 from ⟨by omega, f1', by rw [Int.toNat_natCast, ← HVT.out, ← HVA.out]; simpa using c2⟩)
              clear hfa
              rcases HOR.out with ⟨rfl, -⟩ | ⟨hb0, hb1, hb2⟩
              · go_wp2_with fail
                refine wp_region_below (by kernel_rfl) (by kernel_rfl) ?_
                repeat (first
                  | (refine qv_skip (by rfl) ?_; simp only [Act.put, List.setIfInBounds_toArray, List.set_cons_zero, List.set_cons_succ])
                  | (refine qv_val' (by rfl) ?_; apply Exists.intro; refine ⟨fun w5 hC => ?_, ?_⟩; (have qqr0 := below_cell hC Q0.out; have qqr1 := below_cell hC Q1.out; have qqr2 := below_cell hC X0.out; have qqr3 := below_cell hC X1.out; go_simp; rfl); simp only [Act.put, List.setIfInBounds_toArray, List.set_cons_zero, List.set_cons_succ]))
                refine qv_nil ?_
                intro w5 hC
                have HB5 := Lib.hid hC
                clear hC e1
                have q1 := below_cell HB5.out Q1.out
                go_wp2_with fail
                go_roundw
                case rel => exact ⟨i + 1, y.to, by go_num, rfl, by omega, .inr HPT.out, HO.out.below HB5.out, HV.out.below HB5.out, below_trans HB.out HB5.out⟩
                case measure => simp [intOf]; omega
              · have d3 : decide (b < 0) = false := decide_eq_false (by omega)
                cases c4 : decide ((y.to : Int) < b) with
                | true =>
                  go_wp2_with fail
                  refine wp_region_below (by kernel_rfl) (by kernel_rfl) ?_
                  repeat (first
                    | (refine qv_skip (by rfl) ?_; simp only [Act.put, List.setIfInBounds_toArray, List.set_cons_zero, List.set_cons_succ])
                    | (refine qv_val' (by rfl) ?_; apply Exists.intro; refine ⟨fun w5 hC => ?_, ?_⟩; (have qqr0 := below_cell hC Q0.out; have qqr1 := below_cell hC Q1.out; have qqr2 := below_cell hC X0.out; have qqr3 := below_cell hC X1.out; go_simp; rfl); simp only [Act.put, List.setIfInBounds_toArray, List.set_cons_zero, List.set_cons_succ]))
                  refine qv_nil ?_
                  intro w5 hC
                  have HB5 := Lib.hid hC
                  clear hC e1
                  have q1 := below_cell HB5.out Q1.out
                  go_wp2_with fail
                  go_roundw
                  case rel => exact ⟨i + 1, y.to, by go_num, rfl, by omega, .inr HPT.out, HO.out.below HB5.out, HV.out.below HB5.out, below_trans HB.out HB5.out⟩
                  case measure => simp [intOf]; omega
                | false =>
                  have HS := Lib.hid (show (b = -1 ∧ ∀ e ∈ es.take (i + 1), e.fr = a → d e.to ≠ d a - 1) ∨ (0 ≤ b ∧ b < K ∧ d b.toNat = d a - 1) from .inr ⟨hb0, hb1, hb2⟩)
                  go_wp2_with fail
                  refine wp_region_below (by kernel_rfl) (by kernel_rfl) ?_
                  repeat (first
                    | (refine qv_skip (by rfl) ?_; simp only [Act.put, List.setIfInBounds_toArray, List.set_cons_zero, List.set_cons_succ])
                    | (refine qv_val' (by rfl) ?_; apply Exists.intro; refine ⟨fun w5 hC => ?_, ?_⟩; (have qqr0 := below_cell hC Q0.out; have qqr1 := below_cell hC Q1.out; have qqr2 := below_cell hC X0.out; have qqr3 := below_cell hC X1.out; go_simp; rfl); simp only [Act.put, List.setIfInBounds_toArray, List.set_cons_zero, List.set_cons_succ]))
                  refine qv_nil ?_
                  intro w5 hC
                  have HB5 := Lib.hid hC
                  clear hC e1
                  go_wp2_with fail
                  go_roundw
                  case rel => exact ⟨i + 1, b, by go_num, rfl, by omega, HS.out, HO.out.below HB5.out, HV.out.below HB5.out, below_trans HB.out HB5.out⟩
                  case measure => simp [intOf]; omega
        · have hie : i = es.length := by omega
          subst hie
          rcases HOR.out with ⟨-, h2⟩ | ⟨hb0, hb1, hb2⟩
          · obtain ⟨e, he, e1, e2⟩ := HI.out.step a hda
            exact absurd e2 (h2 e (by rw [List.take_length]; exact he) e1)
          · obtain ⟨bn, rfl⟩ : ∃ bn : Nat, b = (bn : Int) := ⟨b.toNat, by omega⟩
            rw [Int.toNat_natCast] at hb2
            have HB2 := Lib.hid hb2
            have hyl := HYL.out
            clear hb2
            go_wp2_with fail
            go_roundw
            case rel => exact ⟨bn, _, ys, rfl, rfl, by omega, by have := HB2.out; omega, by have := HB2.out; omega, HO.out, HV.out, HB.out⟩
            case measure => have := HB2.out; simp only [atD, intOf, Int.toNat_natCast]; omega
end Go.Proofs.YtbidpeggdhkahaaGreat

set_option linter.unusedSimpArgs false
set_option linter.unusedVariables false
namespace Go.Proofs.YtbidpeggdhkahaaGreat
open Go.RowKit

set_option maxRecDepth 100000 in
set_option maxHeartbeats 4000000 in
theorem redges_bad {w : World} {G : Gram} {A A' : Option Addr} {c c' : Nat}
    (hMay : ∀ w1, Below w.heap.size w w1 → Calls Tryz.prog 60 #[gVal G A c A' c'] w1 fun e w' => e = .returned (.bool false) ∧ Below w1.heap.size w1 w') :
    Calls Tryz.prog 40 #[gVal G A c A' c'] w fun e w' => e = .returned (.tuple #[.slice none 0 0, .int .i64 600]) ∧ Below w.heap.size w w' := by
  have hb0 : Below w.heap.size w (w.alloc (Obj.cells #[Value.int .i64 G.start, Value.slice A G.names.length c, Value.slice A' G.rules.length c'] 25)) := below_alloc' (below_refl w) _
  have B0 := heap_alloc_new w (Obj.cells #[Value.int .i64 G.start, Value.slice A G.names.length c, Value.slice A' G.rules.length c'] 25)
  obtain ⟨bg, hbg⟩ : ∃ bg, bg = w.heap.size := ⟨_, rfl⟩
  have HM := Lib.hid (hMay _ hb0)
  have HB0 := Lib.hid hb0
  have HG := Lib.hid B0
  clear hMay hb0 B0
  go_enter Tryz.func40, Tryz.ntmps40
  go_upto_region 1 with fail
  rw [← hbg] at HG ⊢
  clear hbg
  generalize w.alloc (Obj.cells #[Value.int .i64 G.start, Value.slice A G.names.length c, Value.slice A' G.rules.length c'] 25) = w0 at HG HB0 HM ⊢
  have x0 : w0.cell? ⟨bg, 0, none⟩ = some (.int .i64 G.start) := blk_cell HG.out 0
  have x1 : w0.cell? ⟨bg, 1, none⟩ = some (.slice A G.names.length c) := blk_cell HG.out 1
  have x2 : w0.cell? ⟨bg, 2, none⟩ = some (.slice A' G.rules.length c') := blk_cell HG.out 2
  go_wp2_with (first | (go_at_call 60; refine HM.out.mono ?_; rintro e w1 ⟨rfl, hb1⟩; have HB1 := Lib.hid hb1; clear hb1) | fail)
  go_ret2
  exact ⟨rfl, below_trans HB0.out HB1.out⟩
/-- What Strata answers where there are no levels. -/
def StrBad (w : World) (e : Ending) (w' : World) : Prop := ∃ (v : Value) (k : Int), e = .returned (.tuple #[.slice none 0 0, v, .int .i64 k]) ∧ (k != 0) = true ∧ Below w.heap.size w w'
set_option maxRecDepth 100000 in
set_option maxHeartbeats 4000000 in
theorem rstrata_bad {w : World} {G : Gram} {A A' : Option Addr} {c c' : Nat}
    (hMay : ∀ w1, Below w.heap.size w w1 → Calls Tryz.prog 60 #[gVal G A c A' c'] w1 fun e w' => e = .returned (.bool false) ∧ Below w1.heap.size w1 w') :
    Calls Tryz.prog 27 #[gVal G A c A' c'] w (StrBad w) := by
  have hb0 : Below w.heap.size w (w.alloc (Obj.cells #[Value.int .i64 G.start, Value.slice A G.names.length c, Value.slice A' G.rules.length c'] 25)) := below_alloc' (below_refl w) _
  have B0 := heap_alloc_new w (Obj.cells #[Value.int .i64 G.start, Value.slice A G.names.length c, Value.slice A' G.rules.length c'] 25)
  obtain ⟨bg, hbg⟩ : ∃ bg, bg = w.heap.size := ⟨_, rfl⟩
  have HM := Lib.hid (redges_bad (fun w1 h1 => hMay w1 (below_trans hb0 h1)))
  have HB0 := Lib.hid hb0
  have HG := Lib.hid B0
  clear hMay hb0 B0
  go_enter Tryz.func27, Tryz.ntmps27
  go_upto_region 1 with fail
  rw [← hbg] at HG ⊢
  clear hbg
  generalize w.alloc (Obj.cells #[Value.int .i64 G.start, Value.slice A G.names.length c, Value.slice A' G.rules.length c'] 25) = w0 at HG HB0 HM ⊢
  have x0 : w0.cell? ⟨bg, 0, none⟩ = some (.int .i64 G.start) := blk_cell HG.out 0
  have x1 : w0.cell? ⟨bg, 1, none⟩ = some (.slice A G.names.length c) := blk_cell HG.out 1
  have x2 : w0.cell? ⟨bg, 2, none⟩ = some (.slice A' G.rules.length c') := blk_cell HG.out 2
  go_wp2_with (first | (go_at_call 40; refine HM.out.mono ?_; rintro e w1 ⟨rfl, hb1⟩; have HB1 := Lib.hid hb1; clear hb1) | fail)
  go_ret3
  exact ⟨_, _, rfl, rfl, below_trans HB0.out HB1.out⟩
def SrC1 (w : World) (es : List Edg) (cnt : Value) (wr : World) : Prop := ∃ k : Nat, cnt = .int .i64 k ∧ k ≤ es.length ∧ (∀ e ∈ es.take k, ¬ (e.neg = true ∧ Path es e.to e.fr)) ∧ Below w.heap.size w wr

set_option maxRecDepth 100000 in
set_option maxHeartbeats 16000000 in
theorem rstrata_cyc {w : World} {G : Gram} {A A' : Option Addr} {c c' : Nat} (hm : mayB G = true) (hN : NegCyc (edgesOf G)) (n6 : rulRd.C w A' G.rules)
    (hMay : ∀ w1, Below w.heap.size w w1 → Calls Tryz.prog 60 #[gVal G A c A' c'] w1 fun e w' => e = .returned (.bool true) ∧ Below w1.heap.size w1 w') :
    Calls Tryz.prog 27 #[gVal G A c A' c'] w (StrBad w) := by
  have M := mayG hm
  have hK := M.K64
  have hb0 : Below w.heap.size w (w.alloc (Obj.cells #[Value.int .i64 G.start, Value.slice A G.names.length c, Value.slice A' G.rules.length c'] 25)) := below_alloc' (below_refl w) _
  have B0 := heap_alloc_new w (Obj.cells #[Value.int .i64 G.start, Value.slice A G.names.length c, Value.slice A' G.rules.length c'] 25)
  have HED := Lib.hid (redges_good M (n6.mono hb0) (fun w1 h1 => hMay w1 (below_trans hb0 h1)))
  obtain ⟨bg, hbg⟩ : ∃ bg, bg = w.heap.size := ⟨_, rfl⟩
  have HG := Lib.hid B0
  have HB0 := Lib.hid hb0
  clear n6 hb0 B0 hMay
  go_enter Tryz.func27, Tryz.ntmps27
  go_wp2_with fail
  rw [← hbg] at HG ⊢
  clear hbg
  generalize w.alloc (Obj.cells #[Value.int .i64 G.start, Value.slice A G.names.length c, Value.slice A' G.rules.length c'] 25) = w0 at HG HB0 HED ⊢
  have x0 : w0.cell? ⟨bg, 0, none⟩ = some (.int .i64 G.start) := blk_cell HG.out 0
  have x1 : w0.cell? ⟨bg, 1, none⟩ = some (.slice A G.names.length c) := blk_cell HG.out 1
  have x2 : w0.cell? ⟨bg, 2, none⟩ = some (.slice A' G.rules.length c') := blk_cell HG.out 2
  go_upto_region 4 with (first | (go_at_call 40; refine HED.out.mono ?_; rintro e w1 ⟨Ae, ce, es, rfl, hC, hEs, hl, hb1⟩; have HC := Lib.hid hC; have HEs := Lib.hid hEs; have HB1 := Lib.hid hb1; clear hC hEs hb1) | fail)
  clear x0 x1 x2
  have y1 : w1.cell? ⟨bg, 1, none⟩ = some (.slice A G.names.length c) := blk_cell (blk_below HG.out HB1.out) 1
  have HE := Lib.hid (show EdgesIn G.names.length es from fun e he => edgesOf_in M e ((HEs.out e).1 he))
  have HNC := Lib.hid (show NegCyc es from negcyc_congr (fun e => (HEs.out e).2) hN)
  obtain ⟨K, hKe⟩ : ∃ K, K = G.names.length := ⟨_, rfl⟩
  rw [← hKe] at y1 hK HE
  clear hKe
  go_wp2_with fail
  clear y1
  go_loopw [8] (fun cnt wr => SrC1 w1 es cnt wr) (fun cnt _ => es.length - (intOf cnt).toNat)
  case atStart => exact ⟨0, rfl, Nat.zero_le _, fun e he => (by cases he), below_refl _⟩
  case round =>
    obtain ⟨k, rfl, hk, hno, hb⟩ := hrel
    have HB := Lib.hid hb
    have HNO := Lib.hid hno
    clear hb hno
    by_cases hlt : k < es.length
    · obtain ⟨y, hy⟩ : ∃ y, es[k]? = some y := ⟨_, List.getElem?_eq_getElem hlt⟩
      obtain ⟨ad, eA, -, q0, q1, q2⟩ := edg_at (HC.out.mono HB.out) hy
      subst eA
      have hki : (k : Int) < es.length := by omega
      obtain ⟨v, hv⟩ := pathDec es y.to y.fr
      have hin := HE.out y (List.mem_of_getElem? hy)
      have HRC := Lib.hid (show ∀ w5, Below wr.heap.size wr w5 → Calls Tryz.prog 41 #[.int .i64 K, .slice (some ad) es.length ce, .int .i64 y.to, .int .i64 y.fr] w5 fun e w' => e = .returned (.bool v) ∧ Below w5.heap.size w5 w' from fun w5 h5 => rreaches_good hK HE.out (HC.out.mono (below_trans HB.out h5)) hl hin.2 hin.1 hv)
      have HY := Lib.hid hy
      obtain ⟨ng, hng⟩ : ∃ ng, ng = y.neg := ⟨_, rfl⟩
      rw [← hng] at q2
      have Q0 := Lib.hid q0
      have Q1 := Lib.hid q1
      have Q2 := Lib.hid q2
      have HNX := Lib.hid (show ¬ (ng = true ∧ v = true) → ∀ e ∈ es.take (k + 1), ¬ (e.neg = true ∧ Path es e.to e.fr) from fun hnv e he => by
        rw [take_snoc HY.out] at he
        rcases List.mem_append.1 he with he | he
        · exact HNO.out e he
        · rw [List.mem_singleton.1 he, ← hng]
          exact fun h => hnv ⟨h.1, hv.2 h.2⟩)
      cases ng with
      | false =>
        clear hy hin hv hng q0 q1 q2
        go_wp2_with fail
        refine wp_region_below (by kernel_rfl) (by kernel_rfl) ?_
        repeat (first
          | (refine qv_skip (by rfl) ?_; simp only [Act.put, List.setIfInBounds_toArray, List.set_cons_zero, List.set_cons_succ])
          | (refine qv_val' (by rfl) ?_; apply Exists.intro; refine ⟨fun w5 hC => ?_, ?_⟩; (have qqr0 := below_cell hC Q0.out; have qqr1 := below_cell hC Q1.out; have qqr2 := below_cell hC Q2.out; go_simp; rfl); simp only [Act.put, List.setIfInBounds_toArray, List.set_cons_zero, List.set_cons_succ])
          | (refine qv_call' (by rfl) ?_; apply Exists.intro; apply Exists.intro; apply Exists.intro; refine ⟨fun w5 hC => ?_, fun w5 hC => ?_, ?_⟩; (go_simp; first | rfl | exact ⟨rfl, rfl⟩); (first | (go_at_call 41; with_reducible exact calls_in hC (HRC.out w5 hC))); simp only [Act.put, List.setIfInBounds_toArray, List.set_cons_zero, List.set_cons_succ]))
        refine qv_nil ?_
        intro w5 hC
        have HB5 := Lib.hid hC
        clear hC
        go_wp2_with fail
        go_roundw
        case rel => exact ⟨k + 1, by go_num, by omega, HNX.out (by simp), below_trans HB.out HB5.out⟩
        case measure => simp [intOf]; omega
      | true =>
        cases v with
        | false =>
          clear hy hin hv hng q0 q1 q2
          go_wp2_with fail
          refine wp_region_below (by kernel_rfl) (by kernel_rfl) ?_
          repeat (first
            | (refine qv_skip (by rfl) ?_; simp only [Act.put, List.setIfInBounds_toArray, List.set_cons_zero, List.set_cons_succ])
            | (refine qv_val' (by rfl) ?_; apply Exists.intro; refine ⟨fun w5 hC => ?_, ?_⟩; (have qqr0 := below_cell hC Q0.out; have qqr1 := below_cell hC Q1.out; have qqr2 := below_cell hC Q2.out; go_simp; rfl); simp only [Act.put, List.setIfInBounds_toArray, List.set_cons_zero, List.set_cons_succ])
            | (refine qv_call' (by rfl) ?_; apply Exists.intro; apply Exists.intro; apply Exists.intro; refine ⟨fun w5 hC => ?_, fun w5 hC => ?_, ?_⟩; (go_simp; first | rfl | exact ⟨rfl, rfl⟩); (first | (go_at_call 41; with_reducible exact calls_in hC (HRC.out w5 hC))); simp only [Act.put, List.setIfInBounds_toArray, List.set_cons_zero, List.set_cons_succ]))
          refine qv_nil ?_
          intro w5 hC
          have HB5 := Lib.hid hC
          clear hC
          go_wp2_with fail
          go_roundw
          case rel => exact ⟨k + 1, by go_num, by omega, HNX.out (by simp), below_trans HB.out HB5.out⟩
          case measure => simp [intOf]; omega
        | true =>
          have HIN := Lib.hid hin
          have HP := Lib.hid (hv.1 rfl)
          clear hy hin hv hng q0 q1 q2
          go_wp2_with fail
          refine wp_region_below (by kernel_rfl) (by kernel_rfl) ?_
          repeat (first
            | (refine qv_skip (by rfl) ?_; simp only [Act.put, List.setIfInBounds_toArray, List.set_cons_zero, List.set_cons_succ])
            | (refine qv_val' (by rfl) ?_; apply Exists.intro; refine ⟨fun w5 hC => ?_, ?_⟩; (have qqr0 := below_cell hC Q0.out; have qqr1 := below_cell hC Q1.out; have qqr2 := below_cell hC Q2.out; go_simp; rfl); simp only [Act.put, List.setIfInBounds_toArray, List.set_cons_zero, List.set_cons_succ])
            | (refine qv_call' (by rfl) ?_; apply Exists.intro; apply Exists.intro; apply Exists.intro; refine ⟨fun w5 hC => ?_, fun w5 hC => ?_, ?_⟩; (go_simp; first | rfl | exact ⟨rfl, rfl⟩); (first | (go_at_call 41; with_reducible exact calls_in hC (HRC.out w5 hC))); simp only [Act.put, List.setIfInBounds_toArray, List.set_cons_zero, List.set_cons_succ]))
          refine qv_nil ?_
          intro w5 hC
          have HB5 := Lib.hid (below_trans HB.out hC)
          have q0 := below_cell hC Q0.out
          have q1 := below_cell hC Q1.out
          clear hC
          have HB5L0 := Lib.hid HB5.out.size
          go_upto_region 10 with fail
          have HN6 := Lib.hid (heap_alloc_new w5 (Obj.cells #[.int .i64 (y.fr : Int)] 3))
          have hb6 := below_alloc' (below_refl w5) (Obj.cells #[.int .i64 (y.fr : Int)] 3)
          have HB6 := Lib.hid (below_trans HB5.out hb6)
          have j0 := below_cell hb6 q0
          have j1 := below_cell hb6 q1
          have hal := World.block_lt_of_cell? w5 _ q0
          obtain ⟨b6, hb6e⟩ : ∃ b6, b6 = w5.heap.size := ⟨_, rfl⟩
          rw [← hb6e] at HN6 hal ⊢
          have HB5L := Lib.hid (show w1.heap.size ≤ b6 by rw [hb6e]; exact HB5L0.out)
          clear hb6e hb6 q0 q1
          generalize w5.alloc (Obj.cells #[.int .i64 (y.fr : Int)] 3) = w6 at HN6 HB6 j0 j1 ⊢
          have hl6 := blk_lt HN6.out
          have HWY := Lib.hid (rway_good (c := ce) (w := w6.drew) hK HE.out (HC.out.mono (below_trans HB6.out (below_drew' (below_refl _)))) hl HIN.out.2 HIN.out.1 HP.out)
          have HAL := Lib.hid hal
          clear hal
          go_region_held3 (fun w' => w'.cell? (ad.add (k * 3)) = some (.int .i64 y.fr) ∧ w'.cell? ⟨(ad.add (k * 3)).block, (ad.add (k * 3)).off + 1, none⟩ = some (.int .i64 y.to)) (first | exact ⟨m0, m1⟩ | exact ⟨l0, l1⟩ | exact ⟨j0, j1⟩)
            (first
              | (go_at_call 42; refine HWY.out.mono ?_; rintro e w7 ⟨v7, xs, rfl, hO, hxl, hb7⟩; have l0 := below_cell (w := w6.drew) hb7 j0; have l1 := below_cell (w := w6.drew) hb7 j1; obtain ⟨A7, k7, rfl, -, -, hC7⟩ := id hO.shape; have HC7 := Lib.hid hC7; have HN7 := Lib.hid (blk_below (w := w6.drew) HN6.out hb7); have HB7 := Lib.hid (below_trans HB6.out (below_then (below_drew' (below_refl w6)) hb7)); have hl7 := blk_lt HN7.out; clear hO hb7 hC7)
              | (refine step_append_flat (d := Rd.int) (base := b6) (by rfl) _ _ 84 3 _ 8 (by rfl) Tryz.underlying84 infoInt (by rfl) (by decide) (v := .slice (some ⟨b6, 0, none⟩) 1 1) (xs := [(y.fr : Int)]) (ys := xs) (by rfl) (Own.new_int HN7.out (Nat.le_refl _)) flat_int (A := A7) (c := k7) (by rfl) HC7.out (by simp; omega) (by decide) (by omega) ?_; intro v8 w8 o8 g8 t8; have m0 := (Upd.of_grown g8).cell l0 (fun e => by have h := HAL.out; simp [Value.ownBlock] at e; rw [← e] at h; exact absurd h (Nat.lt_irrefl _)); have m1 := (Upd.of_grown g8).cell l1 (fun e => by have h := HAL.out; simp [Value.ownBlock] at e; rw [← e] at h; exact absurd h (Nat.lt_irrefl _)); have HB8 := Lib.hid (show Below w1.heap.size w1 w8 from below_grown HB7.out g8 (by intro b hb; have h := HB5L.out; simp [Value.ownBlock] at hb; omega)); clear o8 g8 t8)
              | fail)
          all_goals
            go_wp2_with fail
            go_ret3
            exact ⟨_, _, rfl, rfl, below_trans HB0.out (below_trans HB1.out HB8.out)⟩
    · exfalso
      obtain ⟨e, he, h1, h2⟩ := HNC.out
      have hke : k = es.length := by omega
      exact HNO.out e (by rw [hke, List.take_length]; exact he) ⟨h1, h2⟩

/-- What Strata answers of any grammar. -/
def StrPost6 (w : World) (G : Gram) (e : Ending) (w' : World) : Prop := (RefG G ∧ StrBad w e w') ∨ (¬ RefG G ∧ StrGood w G e w')
theorem rstrata_any {w : World} {G : Gram} {A A' : Option Addr} {c c' : Nat} (h1 : G.names.length ≤ 9223372036854775807) (h2 : G.rules.length ≤ 9223372036854775807) (n3 : Rd.str.C w A G.names) (n6 : rulRd.C w A' G.rules) :
    Calls Tryz.prog 27 #[gVal G A c A' c'] w (StrPost6 w G) := by
  have hMay := fun w1 (hb : Below w.heap.size w w1) => rmay_all (w := w1) (G := G) (A := A) (A' := A') (c := c) (c' := c') h1 h2 (n3.mono hb) (n6.mono hb)
  cases hm : mayB G with
  | false =>
    rw [hm] at hMay
    exact (rstrata_bad hMay).mono fun e w' h => .inl ⟨.inl hm, h⟩
  | true =>
    rw [hm] at hMay
    by_cases hN : NegCyc (edgesOf G)
    · exact (rstrata_cyc hm hN n6 hMay).mono fun e w' h => .inl ⟨.inr hN, h⟩
    · exact (rstrata_good hm hN n6 hMay).mono fun e w' h => .inr ⟨by rintro (h | h); (rw [hm] at h; cases h); exact hN h, h⟩
/-- What NewTable answers of any grammar and text. -/
def NewPost6 (w : World) (G : Gram) (W : ByteArray) (A' : Option Addr) (e : Ending) (w' : World) : Prop := ((RefG G ∨ 32 < W.size) ∧ e = .returned (.tuple #[.pointer none, .int .i64 1100]) ∧ Below w.heap.size w w') ∨ (mayB G = true ∧ ¬ NegCyc (edgesOf G) ∧ W.size ≤ 32 ∧ NewGood w G W A' e w')
set_option maxRecDepth 100000 in
set_option maxHeartbeats 4000000 in
theorem rnew_any {w : World} {G : Gram} {W : ByteArray} {A A' : Option Addr} {c c' : Nat} (hWs : W.size < 9223372036854775807) (h1 : G.names.length ≤ 9223372036854775807) (h2 : G.rules.length ≤ 9223372036854775807) (n3 : Rd.str.C w A G.names) (n6 : rulRd.C w A' G.rules) :
    Calls Tryz.prog 14 #[gVal G A c A' c', .string W] w (NewPost6 w G W A') := by
  by_cases hR : RefG G ∨ 32 < W.size
  case neg =>
    have hm : mayB G = true := by
      cases h : mayB G with
      | true => rfl
      | false => exact absurd (.inl (.inl h)) hR
    have hN : ¬ NegCyc (edgesOf G) := fun h => hR (.inl (.inr h))
    have hW : W.size ≤ 32 := by
      by_cases h : 32 < W.size
      · exact absurd (.inr h) hR
      · omega
    have hMay := fun w1 (hb : Below w.heap.size w w1) => rmay_all (w := w1) (G := G) (A := A) (A' := A') (c := c) (c' := c') h1 h2 (n3.mono hb) (n6.mono hb)
    rw [hm] at hMay
    exact (rnew_good hm hN hW n6 hMay).mono fun e w' h => .inr ⟨hm, hN, hW, h⟩
  have hb0 : Below w.heap.size w (w.alloc (Obj.cells #[Value.int .i64 G.start, Value.slice A G.names.length c, Value.slice A' G.rules.length c'] 25)) := below_alloc' (below_refl w) _
  have B0 := heap_alloc_new w (Obj.cells #[Value.int .i64 G.start, Value.slice A G.names.length c, Value.slice A' G.rules.length c'] 25)
  have HST := Lib.hid (rstrata_any (c := c) (c' := c') h1 h2 (n3.mono hb0) (n6.mono hb0))
  obtain ⟨bg, hbg⟩ : ∃ bg, bg = w.heap.size := ⟨_, rfl⟩
  have HG := Lib.hid B0
  have HB0 := Lib.hid hb0
  have HR := Lib.hid hR
  clear n3 n6 hb0 B0 hR
  go_enter Tryz.func14, Tryz.ntmps14
  go_wp2_with fail
  rw [← hbg] at HG ⊢
  clear hbg
  generalize w.alloc (Obj.cells #[Value.int .i64 G.start, Value.slice A G.names.length c, Value.slice A' G.rules.length c'] 25) = w0 at HG HB0 HST ⊢
  have x0 : w0.cell? ⟨bg, 0, none⟩ = some (.int .i64 G.start) := blk_cell HG.out 0
  have x1 : w0.cell? ⟨bg, 1, none⟩ = some (.slice A G.names.length c) := blk_cell HG.out 1
  have x2 : w0.cell? ⟨bg, 2, none⟩ = some (.slice A' G.rules.length c') := blk_cell HG.out 2
  go_wp2_with (first | (go_at_call 27; refine HST.out.mono ?_; clear x0 x1 x2) | fail)
  rintro e w1 (⟨hr, v, k, rfl, hk, hb1⟩ | ⟨hnr, Al, cl, lev, -, rfl, -, hb1⟩)
  · have HB1 := Lib.hid hb1
    clear hb1
    go_wp2_with fail
    go_ret2
    exact .inl ⟨HR.out, rfl, below_trans HB0.out HB1.out⟩
  · have HB1 := Lib.hid hb1
    have dW : decide ((32 : Int) < (W.size : Int)) = true := decide_eq_true (by
      rcases HR.out with h | h
      · exact absurd h hnr
      · omega)
    clear hb1 hnr
    go_wp2_with fail
    go_ret2
    exact .inl ⟨HR.out, rfl, below_trans HB0.out HB1.out⟩
end Go.Proofs.YtbidpeggdhkahaaGreat
