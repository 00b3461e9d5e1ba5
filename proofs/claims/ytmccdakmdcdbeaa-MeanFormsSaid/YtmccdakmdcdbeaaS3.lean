/-
  S3: the walk of strata.steps.
-/
import Derived.Test.YtmccdakmdcdbeaaS2
set_option linter.unusedSimpArgs false
set_option linter.unusedVariables false
namespace Go.Proofs.Ytmccdakmdcdbeaa
open Go.RowKit

/-- What 'steps' leaves. -/
def StepsPost (w : World) (es : List Edg) (K fin : Nat) (e : Ending) (w' : World) : Prop :=
  ∃ (g : Nat) (F : Nat → Int), e = .returned (.slice (some ⟨g, 0, none⟩) K K) ∧ w.heap.size ≤ g ∧ w'.heap[g]? = some (intObj K F) ∧ Below w.heap.size w w' ∧ StepsInv es K fin F [] ∧ Shut es F []
def StepsRel1 (w : World) (es : List Edg) (K fin g gk : Nat) (row : Value) (wr : World) : Prop :=
  ∃ (F : Nat → Int) (xs : List Nat), gk = negs F K + xs.length ∧ wr.heap[g]? = some (intObj K F) ∧ QRow wr (g + 1) row xs ∧ Below w.heap.size w wr ∧ StepsInv es K fin F xs ∧ Shut es F xs
def StepsRel2 (w : World) (es : List Edg) (K fin g gk x : Nat) (row cnt : Value) (wr : World) : Prop :=
  ∃ (k : Nat) (F : Nat → Int) (xs : List Nat), cnt = .int .i64 k ∧ k ≤ es.length ∧ gk = negs F K + (x :: xs).length ∧ wr.heap[g]? = some (intObj K F) ∧ QRow wr (g + 1) row (x :: xs) ∧ Below w.heap.size w wr ∧ StepsInv es K fin F (x :: xs) ∧ Shut es F (x :: xs) ∧
    ∀ (i : Nat) (e : Edg), i < k → es[i]? = some e → e.to = x → 0 ≤ F e.fr
theorem negs_one (K fin : Nat) (h : fin < K) : negs (updI (fun _ => -1) fin 0) K + 1 = K := by
  have h1 := negs_upd (F := fun _ => -1) (i := fin) (v := 0) (by omega) (by omega) h
  have h2 : ∀ n, negs (fun _ => -1) n = n := by
    intro n
    induction n with
    | zero => rfl
    | succ n ih => rw [negs, ih]; rfl
  rw [h1, h2]
theorem steps_start {es : List Edg} {K fin : Nat} (h : fin < K) : StepsInv es K fin (updI (fun _ => -1) fin 0) [fin] := by
  have h1 := negs_one K fin h
  refine ⟨by simp [updI], ?_, ?_, ?_, ?_, by simp; omega⟩
  · intro i _; simp only [updI]; split <;> omega
  · intro i _ h0
    simp only [updI] at h0
    split at h0
    · left; assumption
    · omega
  · intro i _
    have h2 : updI (fun _ => -1) fin 0 i ≤ 0 := by simp only [updI]; split <;> omega
    omega
  · intro x hx; simp at hx; subst hx; exact ⟨h, by simp [updI]⟩
theorem steps_shut {es : List Edg} {fin : Nat} : Shut es (updI (fun _ => -1) fin 0) [fin] := by
  intro e _ h0 hx
  simp at hx
  simp [updI, hx] at h0
theorem QRow.new {w : World} {base b x : Nat} (h : w.heap[b]? = some (.cells #[.int .i64 x] 3 (0, 0))) (hb : base ≤ b) : QRow w base (.slice (some ⟨b, 0, none⟩) 1 1) [x] := by
  refine ⟨b, 0, 1, _, rfl, hb, h, by simp, by simp, by omega, ?_⟩
  intro i y hy
  cases i with
  | zero => simp at hy; subst hy; rfl
  | succ i => simp at hy
theorem QRow.kept {w w' : World} {base : Nat} {v : Value} {xs : List Nat} (h : QRow w base v xs) (hk : ∀ (b : Nat) (o : Obj), base ≤ b → w.heap[b]? = some o → w'.heap[b]? = some o) : QRow w' base v xs := by
  obtain ⟨g, off, cap, cur, rfl, hbg, hg, r⟩ := h
  exact ⟨g, off, cap, cur, rfl, hbg, hk _ _ hbg hg, r⟩
theorem QRow.below {w w' : World} {base : Nat} {v : Value} {xs : List Nat} (h : QRow w base v xs) (hb : Below w.heap.size w w') : QRow w' base v xs := h.kept fun _ _ _ hg => blk_below hg hb
theorem QRow.head {w : World} {base g off n cap x : Nat} {xs : List Nat} (h : QRow w base (.slice (some ⟨g, off, none⟩) n cap) (x :: xs)) : w.cell? ⟨g, off, none⟩ = some (.int .i64 x) := by
  obtain ⟨g', off', cap', cur, e, hbg, hg, h1, h2, h3, h4⟩ := h
  cases e
  rw [blk_cell hg]
  exact h4 0 x rfl
theorem QRow.tail1 {w : World} {base g off n cap x : Nat} {xs : List Nat} (h : QRow w base (.slice (some ⟨g, off, none⟩) n cap) (x :: xs)) (hc : ¬ cap = 1) : QRow w base (.slice (some ⟨g, off + 1, none⟩) xs.length (cap - 1)) xs := by
  obtain ⟨g', off', cap', cur, e, hbg, hg, h1, h2, h3, h4⟩ := h
  cases e
  simp only [List.length_cons] at h1
  refine ⟨g, off + 1, cap - 1, cur, rfl, hbg, hg, by omega, by omega, by omega, fun i y hy => ?_⟩
  have := h4 (i + 1) y (by simpa using hy)
  rw [show off + 1 + i = off + (i + 1) by omega]
  exact this
theorem QRow.tail0 {w : World} {base g off n cap x : Nat} {xs : List Nat} (h : QRow w base (.slice (some ⟨g, off, none⟩) n cap) (x :: xs)) (hc : cap = 1) : QRow w base (.slice (some ⟨g, off, none⟩) xs.length 0) xs := by
  obtain ⟨g', off', cap', cur, e, hbg, hg, h1, h2, h3, h4⟩ := h
  cases e
  simp only [List.length_cons] at h1
  have hx : xs = [] := List.eq_nil_of_length_eq_zero (by omega)
  subst hx
  exact ⟨g, off, 0, cur, rfl, hbg, hg, by simp, by omega, by omega, fun i y hy => by simp at hy⟩
theorem rep_int {w w' : World} {g K : Nat} {v : Int} (h : RepRow w g K K v w') : w'.heap[g]? = some (intObj K (fun _ => v)) := by
  obtain ⟨cur, hg, hl, hv, -, -⟩ := h
  rw [hg]
  unfold intObj
  congr 2
  apply Array.ext
  · simp [intArr, hl]
  · intro i h1 h2
    have hi : i < K := by simpa [intArr] using h2
    have := hv i hi
    rw [List.getElem?_eq_getElem (by omega)] at this
    simp [intArr]
    exact Option.some.inj this
set_option maxRecDepth 100000 in
set_option maxHeartbeats 2000000 in
theorem steps_any {w : World} {K fin : Nat} {es : List Edg} {A : Option Addr} {c : Nat} (hK : K ≤ 64) (hE : EdgesIn K es) (hC : edgRd.C w A es) (hl : es.length ≤ 9223372036854775807) (hf : fin < K) :
    Calls Try.prog 63 #[.int .i64 K, .slice A es.length c, .int .i64 fin] w (StepsPost w es K fin) := by
  have CR := Lib.hid (repeat_any (w := w.alloc (.cells #[.int .i64 (-1)] 3)) (K := K) (g := w.heap.size) (c := 1) (v := -1) hK (by omega) (blk_cell (heap_alloc_new w _) 0))
  have hb0 := below_alloc' (below_refl w) (.cells #[.int .i64 (-1)] 3)
  have hs0 : (w.alloc (.cells #[.int .i64 (-1)] 3)).heap.size = w.heap.size + 1 := by simp
  generalize hw0 : w.alloc (.cells #[.int .i64 (-1)] 3) = w0 at CR hb0 hs0
  have HB0 := Lib.hid hb0
  have HS0 := Lib.hid hs0
  clear hb0 hs0
  go_enter Try.func63, Try.ntmps63
  go_wp2_with (go_at_call 71; refine CR.out.mono ?_; rintro e w1 ⟨rfl, hr⟩; have HR := Lib.hid hr; have x0 := (blk_cell (rep_int hr) fin).trans (intArr_at _ hf); have f0 := blk_frozen (rep_int hr) fin; clear hr)
  have HI := Lib.hid (rep_int HR.out)
  have HBR : Hid (Below w0.heap.size w0 w1) := by obtain ⟨_, _, _, _, _, h⟩ := HR.out; exact h
  obtain ⟨g, hg⟩ : ∃ g, g = w0.heap.size := ⟨_, rfl⟩
  rw [← hg] at HI HS0 x0 f0 ⊢
  have HG := Lib.hid hg
  clear hg
  have hgl := blk_lt HI.out
  have HI2 := Lib.hid (blk_set HI.out fin (.int .i64 0))
  have hq := QRow.new (base := g + 1) (heap_alloc_new (w1.setCell ⟨g, fin, none⟩ (.int .i64 0)) (.cells #[.int .i64 fin] 3)) (by simp [World.setCell]; omega)
  have hr2 := blk_below HI2.out (below_alloc' (below_refl _) (.cells #[.int .i64 (fin : Int)] 3))
  rw [intArr_set] at hr2
  have hbw : Below w.heap.size w ((w1.setCell ⟨g, fin, none⟩ (.int .i64 0)).alloc (.cells #[.int .i64 (fin : Int)] 3)) := by
    refine Below.alloc (Below.setCell ((HB0.out).trans (HBR.out.mono HB0.out.size)) (by rw [HS0.out]; exact Nat.le_succ _) _) ?_ _
    have := HBR.out.size; have := HB0.out.size; simp [World.setCell]; omega
  rw [show (w1.setCell ⟨g, fin, none⟩ (.int .i64 0)).heap.size = w1.heap.size by simp [World.setCell]] at hq
  have HQ := Lib.hid hq
  have HR2 := Lib.hid hr2
  have HBW := Lib.hid hbw
  clear hq hr2 hbw x0 f0 HR HI HI2 CR hw0
  generalize (w1.setCell ⟨g, fin, none⟩ (.int .i64 0)).alloc (.cells #[.int .i64 (fin : Int)] 3) = wb at HQ HR2 HBW ⊢
  go_loopg [8] (negs (updI (fun _ => -1) fin 0) K + 1) (fun gk row wr => StepsRel1 w es K fin g gk row wr)
  case atStart => exact ⟨_, _, rfl, HR2.out, HQ.out, HBW.out, steps_start hf, steps_shut⟩
  case round =>
    clear HQ HR2 HBW HBR hgl
    obtain ⟨F, xs, rfl, hr, hq, hb, hi, hsh⟩ := hrel
    have HR := Lib.hid hr
    have HB := Lib.hid hb
    have HI := Lib.hid hi
    have HSH := Lib.hid hsh
    have HQ := Lib.hid hq
    obtain ⟨gq, off, cap, cur, rfl, hgq, hcq, hlc, hsz, hcm, hcx⟩ := hq
    have hlen := hi.len
    clear hr hb hi hsh
    cases xs with
    | nil =>
      go_wp2
      go_ret
      exact ⟨g, F, rfl, by have := HS0.out; omega, HR.out, HB.out, HI.out, HSH.out⟩
    | cons x rest =>
      have hpos : (0 : Int) < ((x :: rest).length : Int) := by simp
      clear hcq hcx hgq
      go_wp2_with fail
      go_loopw [8, 26] (fun row cnt wr => StepsRel2 w es K fin g (negs F K + (x :: rest).length) x row cnt wr) (fun _ cnt _ => es.length - (intOf cnt).toNat)
      case atStart => exact ⟨0, F, rest, rfl, Nat.zero_le _, rfl, HR.out, HQ.out, HB.out, HI.out, HSH.out, fun i e hi => by omega⟩
      case round =>
        clear HR HQ HB HI HSH
        obtain ⟨k, F', xs, rfl, hk, hgk, hr, hq, hb, hi, hsh, hall⟩ := hrel
        have HR := Lib.hid hr
        have HB := Lib.hid hb
        have HI := Lib.hid hi
        have HSH := Lib.hid hsh
        have HQ := Lib.hid hq
        have HGK := Lib.hid hgk
        have HALL := Lib.hid hall
        obtain ⟨gq, off, cap, cur, rfl, hgq, hcq, hlc, hsz, hcm, hcx⟩ := hq
        have hlen := hi.len
        have hx := hi.row x (by simp)
        clear hr hb hi hsh hall hgk
        by_cases hlt : k < es.length
        · obtain ⟨y, hy⟩ : ∃ y, es[k]? = some y := ⟨_, List.getElem?_eq_getElem hlt⟩
          obtain ⟨ad, eA, -, q0, q1, q2⟩ := edg_at (hC.mono HB.out) hy
          subst eA
          have hki : (k : Int) < es.length := by omega
          have hmem := List.mem_of_getElem? hy
          have hin := hE y hmem
          have hba := below_alloc' (below_refl wr) (Obj.cells #[Value.int .i64 y.fr, Value.int .i64 y.to, Value.bool y.neg] 81)
          have B8 := heap_alloc_new wr (Obj.cells #[Value.int .i64 y.fr, Value.int .i64 y.to, Value.bool y.neg] 81)
          have HY := Lib.hid hy
          clear hy
          go_wp2_with fail
          clear q0 q1 q2
          generalize wr.alloc (Obj.cells #[Value.int .i64 y.fr, Value.int .i64 y.to, Value.bool y.neg] 81) = w4 at hba B8 ⊢
          have R4 := Lib.hid (blk_below HR.out hba)
          have Q4 := Lib.hid (HQ.out.below hba)
          have B4 := Lib.hid (below_then HB.out hba)
          have c0 := Q4.out.head
          have s0 := blk_cell B8 0
          have s1 := blk_cell B8 1
          have o0 := (blk_cell R4.out y.fr).trans (intArr_at F' hin.1)
          have ox := (blk_cell R4.out x).trans (intArr_at F' hx.1)
          have fo := blk_frozen R4.out y.fr
          have i1 := hin.1
          have i2 := hx.1
          have hl4 := blk_lt B8
          clear hba B8
          by_cases hyx : y.to = x
          · have t1 : (((y.to : Nat) : Int) == (x : Int)) = true := by simp [hyx]
            by_cases hneg : F' y.fr < 0
            · have t2 : decide (F' y.fr < 0) = true := by simp [hneg]
              clear hcq hlc hsz hcx
              go_quiet (fail)
              go_wp2_with fail
              have R5 : (w4.drewN nq).heap[g]? = some (intObj K F') := R4.out
              have Q5 := Q4.out.kept (w' := w4.drewN nq) (fun _ _ _ h => h)
              have B5 := below_drewN' B4.out nq
              have c5 : (w4.drewN nq).cell? ⟨gq, off, none⟩ = some (.int .i64 x) := c0
              have s5 : (w4.drewN nq).cell? ⟨wr.heap.size, 0, none⟩ = some (.int .i64 y.fr) := s0
              have o5 : (w4.drewN nq).cell? ⟨g, x, none⟩ = some (.int .i64 (F' x)) := ox
              have o6 : (w4.drewN nq).cell? ⟨g, y.fr, none⟩ = some (.int .i64 (F' y.fr)) := o0
              have f5 : (w4.drewN nq).frozen? ⟨g, y.fr, none⟩ = false := fo
              clear c0 s0 s1 o0 ox fo R4 Q4 B4 hl4 t1 t2
              generalize w4.drewN nq = w5 at R5 Q5 B5 c5 s5 o5 o6 f5 ⊢
              have hhi := HI.out.high x hx.1
              have hfx : wrap64 (F' x + 1) = F' x + 1 := by unfold wrap64; omega
              have hwg := blk_lt R5
              go_region
              have HI7 := Lib.hid (show StepsInv es K fin (updI F' y.fr (F' x + 1)) (x :: (xs ++ [y.fr])) by
                have h7 := HI.out.more hE hmem (by rw [hyx]; simp) hneg
                rw [hyx] at h7
                exact h7)
              have HSH7 := Lib.hid (show Shut es (updI F' y.fr (F' x + 1)) (x :: (xs ++ [y.fr])) from HSH.out.more hneg (by omega))
              have HGK7 := Lib.hid (show negs F K + (x :: rest).length = negs (updI F' y.fr (F' x + 1)) K + (x :: (xs ++ [y.fr])).length by
                have h7 := HGK.out
                have h8 := negs_upd (F := F') (i := y.fr) (v := F' x + 1) hneg (by omega) i1
                simp only [List.length_cons, List.length_append, List.length_nil] at h7 ⊢
                omega)
              have HA7 := Lib.hid (show ∀ (i : Nat) (e : Edg), i < k + 1 → es[i]? = some e → e.to = x → 0 ≤ updI F' y.fr (F' x + 1) e.fr from fun i e hi he hex => by
                unfold updI
                split
                · omega
                · by_cases hik : i < k
                  · exact HALL.out i e hik he hex
                  · have : i = k := by omega
                    subst this
                    rw [HY.out] at he
                    cases he
                    contradiction)
              have R6 := Lib.hid (show ((w5.setCell ⟨g, y.fr, none⟩ (.int .i64 (F' x + 1))).drew).heap[g]? = some (intObj K (updI F' y.fr (F' x + 1))) by
                have h7 := blk_set R5 y.fr (.int .i64 (F' x + 1))
                rw [intArr_set] at h7
                exact h7)
              have Q6 := Lib.hid (Q5.kept (w' := (w5.setCell ⟨g, y.fr, none⟩ (.int .i64 (F' x + 1))).drew) (fun b o hb ho => (Below.heap_setCell w5 ⟨g, y.fr, none⟩ _ b (by intro e; rw [e] at hb; simp at hb; omega)).trans ho))
              have B6 := Lib.hid (below_drew' (below_setNew B5 (p := ⟨g, y.fr, none⟩) (by have := HS0.out; show _ ≤ g; omega) (.int .i64 (F' x + 1))))
              have hgwr := blk_lt HR.out
              have s6 : ((w5.setCell ⟨g, y.fr, none⟩ (.int .i64 (F' x + 1))).drew).cell? ⟨wr.heap.size, 0, none⟩ = some (.int .i64 y.fr) := keep_set s5 (by show g ≠ wr.heap.size; omega)
              clear R5 Q5 B5 c5 s5 o5 o6 f5 hwg
              generalize (w5.setCell ⟨g, y.fr, none⟩ (.int .i64 (F' x + 1))).drew = w6 at R6 Q6 B6 s6 ⊢
              have hb6 := B6.out.size
              have hg6 := blk_lt R6.out
              go_wp2_with (at_builtin; refine wpList_append_q rfl (base := g + 1) (.tmp 55) (.tmp 58) (by rfl) (v := .slice (some ⟨gq, off, none⟩) (x :: xs).length cap) (xs := x :: xs) (by rfl) (Q6.out.below (below_alloc' (below_refl _) _)) y.fr w6.heap.size 1 (by rfl) (heap_alloc_new w6 _) (by simp; omega) (by omega) ?_; intro v7 w7 q7 g7 t7; obtain ⟨gq7, off7, cap7, cur7, rfl, q71, -⟩ := id q7; have Q7 := Lib.hid (show QRow w7 (g + 1) (.slice (some ⟨gq7, off7, none⟩) (xs.length + 1 + 1) cap7) (x :: (xs ++ [y.fr])) by { have q8 := q7; rw [show (x :: xs ++ [y.fr]).length = xs.length + 1 + 1 by simp] at q8; exact q8 }); have G7 := Lib.hid g7; clear q7 g7 t7)
              go_roundw
              case rel =>
                (repeat apply Exists.intro)
                refine ⟨?_, rfl⟩
                exact ⟨k + 1, _, xs ++ [y.fr], by go_num, hlt, HGK7.out, blk_grown (blk_below R6.out (below_alloc' (below_refl _) _)) G7.out (by simp [Value.ownBlock]; omega), Q7.out, below_grown (below_alloc' B6.out _) G7.out (by intro b hb; simp [Value.ownBlock] at hb; have := HS0.out; omega), HI7.out, HSH7.out, HA7.out⟩
              case measure => simp [intOf]; omega
            · have t2 : decide (F' y.fr < 0) = false := by simp [hneg]
              have HA := Lib.hid (show ∀ (i : Nat) (e : Edg), i < k + 1 → es[i]? = some e → e.to = x → 0 ≤ F' e.fr from fun i e hi he hex => by
                by_cases hik : i < k
                · exact HALL.out i e hik he hex
                · have : i = k := by omega
                  subst this
                  rw [HY.out] at he
                  cases he
                  omega)
              go_quiet (fail)
              go_wp2_with fail
              go_roundw
              case rel => exact ⟨k + 1, F', xs, by go_num, hlt, HGK.out, R4.out, Q4.out.kept (fun _ _ _ h => h), below_drewN' B4.out _, HI.out, HSH.out, HA.out⟩
              case measure => simp [intOf]; omega
          · have t1 : (((y.to : Nat) : Int) == (x : Int)) = false := by simp; omega
            have HA := Lib.hid (show ∀ (i : Nat) (e : Edg), i < k + 1 → es[i]? = some e → e.to = x → 0 ≤ F' e.fr from fun i e hi he hex => by
              by_cases hik : i < k
              · exact HALL.out i e hik he hex
              · have : i = k := by omega
                subst this
                rw [HY.out] at he
                cases he
                exact absurd hex hyx)
            go_quiet (fail)
            go_wp2_with fail
            go_roundw
            case rel => exact ⟨k + 1, F', xs, by go_num, hlt, HGK.out, R4.out, Q4.out.kept (fun _ _ _ h => h), below_drewN' B4.out _, HI.out, HSH.out, HA.out⟩
            case measure => simp [intOf]; omega
        · have hke : k = es.length := by omega
          have c0 := HQ.out.head
          have HA := Lib.hid (show ∀ e ∈ es, e.to = x → 0 ≤ F' e.fr from fun e he hex => by
            obtain ⟨i, hi⟩ := List.getElem?_of_mem he
            exact HALL.out i e (by rw [hke]; exact (List.getElem?_eq_some_iff.1 hi).1) hi hex)
          clear hlc hcq hsz hcx
          go_wp2_with fail
          · go_roundg (negs F' K + xs.length)
            case rel => exact ⟨F', xs, rfl, HR.out, HQ.out.tail0 (by assumption), HB.out, HI.out.tail, HSH.out.tail HA.out⟩
            case measure => have := HGK.out; simp only [List.length_cons] at this ⊢; omega
          · go_roundg (negs F' K + xs.length)
            case rel => exact ⟨F', xs, rfl, HR.out, HQ.out.tail1 (by assumption), HB.out, HI.out.tail, HSH.out.tail HA.out⟩
            case measure => have := HGK.out; simp only [List.length_cons] at this ⊢; omega
end Go.Proofs.Ytmccdakmdcdbeaa
