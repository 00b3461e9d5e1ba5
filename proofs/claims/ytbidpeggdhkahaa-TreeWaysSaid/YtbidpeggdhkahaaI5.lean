/-
  I5: steps and keys in slices; the closures of 'lesser' and 'chosen'; IndexFunc, ContainsFunc; lesser, chosen.
-/
import Derived.Test.YtbidpeggdhkahaaI4
import Derived.Test.YtbidpeggdhkahaaI3
import Derived.Shelf.Abstract
set_option linter.unusedSimpArgs false
set_option linter.unusedVariables false
namespace Go.Proofs.Ytbidpeggdhkahaa
open Go.RowKit

def kyCs (k : Ky) : List Value := [.int .i64 k.kind, .int .i64 k.name, .int .i64 k.plc.rule, .int .i64 k.plc.conj, .int .i64 k.plc.pos, .int .i64 k.i, .int .i64 k.j]
def kyRd : Rd Ky where
  sz := 7
  K _ x cs := cs = kyCs x
  len h := by subst h; rfl
  one h u hu := by subst h; simp only [kyCs, List.mem_cons, List.mem_nil_iff, or_false] at hu; rcases hu with rfl | rfl | rfl | rfl | rfl | rfl | rfl <;> rfl
  mono _ h := h
theorem flat_ky : Flat kyRd := fun _ _ _ _ h => h
def stpRd : Rd Stp := Rd.iso (Rd.pair Rd.int (Rd.pair Rd.int (Rd.sl kyRd))) (fun x => (x.sp, x.cj, x.kids))
theorem stpRd_open {w : World} {x : Stp} {cs : List Value} (h : stpRd.K w x cs) : ∃ A c, cs = [.int .i64 x.sp, .int .i64 x.cj, .slice A x.kids.length c] ∧ x.kids.length ≤ c ∧ c ≤ 9223372036854775807 ∧ kyRd.C w A x.kids := by
  obtain ⟨c1, c2, rfl, rfl, c3, c4, rfl, rfl, A, c, rfl, h1, h2, h3⟩ := h
  exact ⟨A, c, rfl, h1, h2, h3⟩
theorem stpRd_mk {w : World} {x : Stp} {A : Option Addr} {c : Nat} (h1 : x.kids.length ≤ c) (h2 : c ≤ 9223372036854775807) (h3 : kyRd.C w A x.kids) : stpRd.K w x [.int .i64 x.sp, .int .i64 x.cj, .slice A x.kids.length c] :=
  ⟨[_], [_, _], rfl, rfl, [_], [_], rfl, rfl, A, c, rfl, h1, h2, h3⟩
theorem ky_at {w : World} {A : Option Addr} {xs : List Ky} (h : kyRd.C w A xs) {i : Nat} {x : Ky} (hx : xs[i]? = some x) : ∃ ad, A = some ad ∧ KyAt w (ad.add (i * 7)) x := by
  obtain ⟨ad, cs, hA, hK, hc⟩ := h i x hx
  have hK : cs = kyCs x := hK
  subst hK
  have h0 := hc 0 _ rfl
  have h1 := hc 1 _ rfl
  have h2 := hc 2 _ rfl
  have h3 := hc 3 _ rfl
  have h4 := hc 4 _ rfl
  have h5 := hc 5 _ rfl
  have h6 := hc 6 _ rfl
  rw [show kyRd.sz = 7 from rfl] at h0 h1 h2 h3 h4 h5 h6
  rw [add_off _ _ _ (by omega)] at h1 h2 h3 h4 h5 h6
  exact ⟨ad, hA, h0, h1, h2, h3, h4, h5, h6⟩
structure StpAt (w : World) (a : Addr) (x : Stp) (A : Option Addr) (c : Nat) : Prop where
  c0 : w.cell? a = some (.int .i64 x.sp)
  c1 : w.cell? ⟨a.block, a.off + 1, none⟩ = some (.int .i64 x.cj)
  c2 : w.cell? ⟨a.block, a.off + 2, none⟩ = some (.slice A x.kids.length c)
  l1 : x.kids.length ≤ c
  l2 : c ≤ 9223372036854775807
  kd : kyRd.C w A x.kids
theorem StpAt.mono {w w' : World} {a : Addr} {x : Stp} {A : Option Addr} {c : Nat} (h : StpAt w a x A c) (hb : Below w.heap.size w w') : StpAt w' a x A c :=
  ⟨below_cell hb h.c0, below_cell hb h.c1, below_cell hb h.c2, h.l1, h.l2, h.kd.mono hb⟩
theorem stp_at {w : World} {A : Option Addr} {xs : List Stp} (h : stpRd.C w A xs) {i : Nat} {x : Stp} (hx : xs[i]? = some x) : ∃ ad A1 c1, A = some ad ∧ StpAt w (ad.add (i * 3)) x A1 c1 := by
  obtain ⟨ad, cs, hA, hK, hc⟩ := h i x hx
  obtain ⟨A1, c1, rfl, k1, k2, k3⟩ := stpRd_open hK
  have h0 := hc 0 _ rfl
  have h1 := hc 1 _ rfl
  have h2 := hc 2 _ rfl
  rw [show stpRd.sz = 3 from rfl] at h0 h1 h2
  rw [add_off _ _ _ (by omega)] at h1 h2
  exact ⟨ad, A1, c1, hA, h0, h1, h2, k1, k2, k3⟩
/-- A stretch of a slice. -/
theorem Rd.C.sub {α : Type} {d : Rd α} {w : World} {ad : Addr} {xs : List α} (h : d.C w (some ad) xs) (n m : Nat) : d.C w (some (ad.add (n * d.sz))) ((xs.drop n).take m) := by
  intro i x hx
  have hx' : xs[n + i]? = some x := by
    rw [List.getElem?_take] at hx
    split at hx
    · rwa [List.getElem?_drop] at hx
    · cases hx
  obtain ⟨ad', cs, hA, hK, hc⟩ := h (n + i) x hx'
  injection hA with hA
  subst hA
  refine ⟨_, cs, rfl, hK, fun j v hv => ?_⟩
  rw [add_of_add, show n * d.sz + (i * d.sz + j) = (n + i) * d.sz + j by rw [Nat.add_mul]; omega]
  exact hc j v hv

/-- The first place at which p is so; -1: there is none. -/
def idxP {α : Type} (p : α → Bool) (xs : List α) : Int := match xs.findIdx? p with
  | some i => i
  | none => -1
theorem idxP_hit {α : Type} {p : α → Bool} {xs : List α} {k : Nat} {x : α} (hx : xs[k]? = some x) (hp : p x = true) (hb : ∀ j y, j < k → xs[j]? = some y → p y = false) : idxP p xs = k := by
  unfold idxP
  have hk : k < xs.length := (List.getElem?_eq_some_iff.1 hx).1
  have : xs.findIdx? p = some k := by
    rw [List.findIdx?_eq_some_iff_getElem]
    refine ⟨hk, ?_, fun j hj => ?_⟩
    · rw [List.getElem?_eq_getElem hk] at hx; injection hx with hx; rw [hx]; exact hp
    · have := hb j xs[j] hj (List.getElem?_eq_getElem (by omega))
      simp [this]
  rw [this]
theorem idxP_miss {α : Type} {p : α → Bool} {xs : List α} (hb : ∀ j y, j < xs.length → xs[j]? = some y → p y = false) : idxP p xs = -1 := by
  unfold idxP
  have : xs.findIdx? p = none := by
    rw [List.findIdx?_eq_none_iff]
    intro x hx
    obtain ⟨i, hi, he⟩ := List.mem_iff_getElem.1 hx
    exact hb i x hi (by rw [← he]; exact List.getElem?_eq_getElem hi)
  rw [this]
/-- What is known of the elements gone by. -/
structure Misses {α : Type} (p : α → Bool) (xs : List α) (k : Nat) : Prop where
  out : ∀ j y, j < k → xs[j]? = some y → p y = false

set_option maxRecDepth 100000 in
set_option maxHeartbeats 2000000 in
/-- slices.IndexFunc at keys. -/
theorem idx_keys {w : World} {ks : List Ky} {A : Option Addr} {c g : Nat} {lb : Array Value} (p : Ky → Bool) (eg : ∀ args w, (callFunc g args).run Try.prog w = .ok (.enter g args) w) (hC : kyRd.C w A ks) (h1 : ks.length ≤ c) (h2 : c ≤ 9223372036854775807)
    (hp : ∀ (W : World) (x : Ky), Below w.heap.size w W → Calls Try.prog g (#[kyV x] ++ lb) W fun e w' => e = .returned (.bool (p x)) ∧ Below W.heap.size W w') :
    Calls Try.prog 65 #[.slice A ks.length c, .func (.func g) #[] lb] w fun e w' => e = .returned (.int .i64 (idxP p ks)) ∧ Below w.heap.size w w' := by
  have HC := Lib.hid hC
  have HP := Lib.hid hp
  clear hC hp
  go_enter Try.func65, Try.ntmps65
  go_wp2
  go_loopg [5, 8] ks.length (fun gg _ s8 wr => ∃ kk : Nat, kk ≤ ks.length ∧ ks.length - kk ≤ gg ∧ s8 = .int .i64 kk ∧ Below w.heap.size w wr ∧ Misses p ks kk)
  case atStart => exact ⟨0, Nat.zero_le _, by omega, rfl, below_refl w, ⟨fun j y hj => absurd hj (Nat.not_lt_zero _)⟩⟩
  case round =>
    obtain ⟨kk, hkk, hg, rfl, hb, hM⟩ := hrel
    have HB := Lib.hid hb
    clear hb
    by_cases hlt : kk < ks.length
    · have hltz : (kk : Int) < (ks.length : Int) := by omega
      obtain ⟨x, hx⟩ : ∃ x, ks[kk]? = some x := ⟨_, List.getElem?_eq_getElem hlt⟩
      obtain ⟨ad, rfl, K⟩ := ky_at (HC.out.mono HB.out) hx
      have k0 := K.c0
      have k1 := K.c1
      have k2 := K.c2
      have k3 := K.c3
      have k4 := K.c4
      have k5 := K.c5
      have k6 := K.c6
      have CL := Lib.hid (HP.out wr x HB.out)
      have HX := Lib.hid hx
      clear K hx
      cases hq : p x with
      | true =>
        have HQ := Lib.hid hq
        rw [hq] at CL
        clear hq
        go_wp2_with (go_at_fn g; refine CL.out.mono ?_; rintro e w' ⟨rfl, hb'⟩; have HB' := Lib.hid (below_then HB.out hb'); clear hb')
        go_ret
        exact ⟨by rw [idxP_hit HX.out HQ.out hM.out]; rfl, HB'.out⟩
      | false =>
        have HQ := Lib.hid hq
        rw [hq] at CL
        clear hq
        go_wp2_with (go_at_fn g; refine CL.out.mono ?_; rintro e w' ⟨rfl, hb'⟩; have HB' := Lib.hid (below_then HB.out hb'); clear hb')
        go_roundg (ks.length - (kk + 1))
        case measure => omega
        case rel =>
          refine ⟨kk + 1, by omega, by omega, by go_num, HB'.out, ⟨fun j y hj hy => ?_⟩⟩
          by_cases e : j = kk
          · subst e
            rw [HX.out] at hy
            injection hy with hy
            rw [← hy]; exact HQ.out
          · exact hM.out j y (by omega) hy
    · have hltz : ¬ (kk : Int) < (ks.length : Int) := by omega
      have e : kk = ks.length := by omega
      have HM := Lib.hid (show idxP p ks = -1 from idxP_miss (fun j y hj hy => hM.out j y (by omega) hy))
      clear hM e
      go_wp2
      go_ret
      exact ⟨by rw [HM.out]; rfl, HB.out⟩

set_option maxRecDepth 100000 in
set_option maxHeartbeats 2000000 in
/-- slices.IndexFunc at steps. -/
theorem idx_steps {w : World} {ss : List Stp} {A : Option Addr} {c g : Nat} {lb : Array Value} (p : Stp → Bool) (eg : ∀ args w, (callFunc g args).run Try.prog w = .ok (.enter g args) w) (hC : stpRd.C w A ss) (h1 : ss.length ≤ c) (h2 : c ≤ 9223372036854775807)
    (hp : ∀ (W : World) (x : Stp) (A1 : Option Addr) (c1 : Nat), Below w.heap.size w W → x.kids.length ≤ c1 → c1 ≤ 9223372036854775807 → kyRd.C W A1 x.kids → Calls Try.prog g (#[.agg #[.int .i64 x.sp, .int .i64 x.cj, .slice A1 x.kids.length c1]] ++ lb) W fun e w' => e = .returned (.bool (p x)) ∧ Below W.heap.size W w') :
    Calls Try.prog 39 #[.slice A ss.length c, .func (.func g) #[] lb] w fun e w' => e = .returned (.int .i64 (idxP p ss)) ∧ Below w.heap.size w w' := by
  have HC := Lib.hid hC
  have HP := Lib.hid hp
  clear hC hp
  go_enter Try.func39, Try.ntmps39
  go_wp2
  go_loopg [5, 8] ss.length (fun gg _ s8 wr => ∃ kk : Nat, kk ≤ ss.length ∧ ss.length - kk ≤ gg ∧ s8 = .int .i64 kk ∧ Below w.heap.size w wr ∧ Misses p ss kk)
  case atStart => exact ⟨0, Nat.zero_le _, by omega, rfl, below_refl w, ⟨fun j y hj => absurd hj (Nat.not_lt_zero _)⟩⟩
  case round =>
    obtain ⟨kk, hkk, hg, rfl, hb, hM⟩ := hrel
    have HB := Lib.hid hb
    clear hb
    by_cases hlt : kk < ss.length
    · have hltz : (kk : Int) < (ss.length : Int) := by omega
      obtain ⟨x, hx⟩ : ∃ x, ss[kk]? = some x := ⟨_, List.getElem?_eq_getElem hlt⟩
      obtain ⟨ad, A1, c1, rfl, K⟩ := stp_at (HC.out.mono HB.out) hx
      have k0 := K.c0
      have k1 := K.c1
      have k2 := K.c2
      have CL := Lib.hid (HP.out wr x A1 c1 HB.out K.l1 K.l2 K.kd)
      have HX := Lib.hid hx
      clear K hx
      cases hq : p x with
      | true =>
        have HQ := Lib.hid hq
        rw [hq] at CL
        clear hq
        go_wp2_with (go_at_fn g; refine CL.out.mono ?_; rintro e w' ⟨rfl, hb'⟩; have HB' := Lib.hid (below_then HB.out hb'); clear hb')
        go_ret
        exact ⟨by rw [idxP_hit HX.out HQ.out hM.out]; rfl, HB'.out⟩
      | false =>
        have HQ := Lib.hid hq
        rw [hq] at CL
        clear hq
        go_wp2_with (go_at_fn g; refine CL.out.mono ?_; rintro e w' ⟨rfl, hb'⟩; have HB' := Lib.hid (below_then HB.out hb'); clear hb')
        go_roundg (ss.length - (kk + 1))
        case measure => omega
        case rel =>
          refine ⟨kk + 1, by omega, by omega, by go_num, HB'.out, ⟨fun j y hj hy => ?_⟩⟩
          by_cases e : j = kk
          · subst e
            rw [HX.out] at hy
            injection hy with hy
            rw [← hy]; exact HQ.out
          · exact hM.out j y (by omega) hy
    · have hltz : ¬ (kk : Int) < (ss.length : Int) := by omega
      have e : kk = ss.length := by omega
      have HM := Lib.hid (show idxP p ss = -1 from idxP_miss (fun j y hj hy => hM.out j y (by omega) hy))
      clear hM e
      go_wp2
      go_ret
      exact ⟨by rw [HM.out]; rfl, HB.out⟩
set_option maxRecDepth 100000 in
/-- slices.ContainsFunc at keys. -/
theorem has_keys {w : World} {ks : List Ky} {A : Option Addr} {c g : Nat} {lb : Array Value} (p : Ky → Bool) (eg : ∀ args w, (callFunc g args).run Try.prog w = .ok (.enter g args) w) (hC : kyRd.C w A ks) (h1 : ks.length ≤ c) (h2 : c ≤ 9223372036854775807)
    (hp : ∀ (W : World) (x : Ky), Below w.heap.size w W → Calls Try.prog g (#[kyV x] ++ lb) W fun e w' => e = .returned (.bool (p x)) ∧ Below W.heap.size W w') :
    Calls Try.prog 51 #[.slice A ks.length c, .func (.func g) #[] lb] w fun e w' => e = .returned (.bool (decide (0 ≤ idxP p ks))) ∧ Below w.heap.size w w' := by
  have CL := Lib.hid (idx_keys p eg hC h1 h2 hp)
  clear hC hp
  go_enter Try.func51, Try.ntmps51
  go_wp2_with (go_at_call 65; refine CL.out.mono ?_; rintro e w' ⟨rfl, hb⟩; have HB := Lib.hid hb; clear hb)
  go_ret
  exact ⟨rfl, HB.out⟩
theorem eg_lesser : ∀ args w, (callFunc 52 args).run Try.prog w = .ok (.enter 52 args) w := enters_of Try.func52 (by kernel_rfl) rfl
theorem eg_chosen : ∀ args w, (callFunc 40 args).run Try.prog w = .ok (.enter 40 args) w := enters_of Try.func40 (by kernel_rfl) rfl

set_option maxRecDepth 100000 in
set_option maxHeartbeats 2000000 in
/-- The closure of 'lesser': is a key's rank not less? -/
theorem lesser1 {w : World} {m : MK} (h : MKAt w m) (F : m.Fits) {b3 b5 : Nat} {rank : Int} (c3 : w.cell? ⟨b3, 0, none⟩ = some (.pointer (some ⟨m.p, 0, none⟩))) (c5 : w.cell? ⟨b5, 0, none⟩ = some (.int .i64 rank)) (k : Ky) :
    Calls Try.prog 52 #[kyV k, .pointer (some ⟨b3, 0, none⟩), .pointer (some ⟨b5, 0, none⟩)] w fun e w' => e = .returned (.bool (decide (rank ≤ m.R k))) ∧ Below w.heap.size w w' := by
  have hb0 : Below w.heap.size w (w.alloc (kyO k)) := below_alloc' (below_refl w) _
  have H0 := Lib.hid (h.mono hb0)
  have C3 := Lib.hid (below_cell hb0 c3)
  have C5 := Lib.hid (below_cell hb0 c5)
  have B0 := heap_alloc_new w (kyO k)
  obtain ⟨b0, hb⟩ : ∃ b0, b0 = w.heap.size := ⟨_, rfl⟩
  unfold kyV
  go_enter Try.func52, Try.ntmps52
  go_wp2_with fail
  change Code.wp _ _ _ _ (w.alloc (kyO k))
  rw [← hb] at B0 ⊢
  generalize w.alloc (kyO k) = w0 at hb0 H0 B0 C3 C5 ⊢
  have HB0 := Lib.hid hb0
  have K := kyAt_blk B0
  have K0 := Lib.hid K.c0
  have K1 := Lib.hid K.c1
  have K2 := Lib.hid K.c2
  have K3 := Lib.hid K.c3
  have K4 := Lib.hid K.c4
  have K5 := Lib.hid K.c5
  have K6 := Lib.hid K.c6
  clear hb0 B0 hb K h c3 c5
  refine wp_region_below (by kernel_rfl) (by kernel_rfl) ?_
  repeat (first
    | (refine qv_skip (by rfl) ?_; simp only [Act.put, List.setIfInBounds_toArray, List.set_cons_zero, List.set_cons_succ])
    | (refine qv_val' (by rfl) ?_; apply Exists.intro; refine ⟨fun w5 hC => ?_, ?_⟩; (have qqr0 := below_cell hC C3.out; have qqr1 := below_cell hC C5.out; have qqr2 := below_cell hC K0.out; have qqr3 := below_cell hC K1.out; have qqr4 := below_cell hC K2.out; have qqr5 := below_cell hC K3.out; have qqr6 := below_cell hC K4.out; have qqr7 := below_cell hC K5.out; have qqr8 := below_cell hC K6.out; go_simp; rfl); simp only [Act.put, List.setIfInBounds_toArray, List.set_cons_zero, List.set_cons_succ])
    | (refine qv_call' (by rfl) ?_; apply Exists.intro; apply Exists.intro; apply Exists.intro; refine ⟨fun w5 hC => ?_, fun w5 hC => ?_, ?_⟩; (go_simp; first | rfl | exact ⟨rfl, rfl⟩); (first | (go_at_call 14; exact calls_in hC (mkRank (H0.out.mono hC) F k))); simp only [Act.put, List.setIfInBounds_toArray, List.set_cons_zero, List.set_cons_succ]))
  refine qv_nil ?_
  intro w5 hC
  have HB5 := Lib.hid hC
  clear hC
  go_wp2_with fail
  go_ret
  exact ⟨rfl, below_then HB0.out HB5.out⟩

set_option maxRecDepth 100000 in
set_option maxHeartbeats 2000000 in
/-- (*ways.Maker).lesser. -/
theorem mLesser {w : World} {m : MK} (h : MKAt w m) (F : m.Fits) {ks : List Ky} {A : Option Addr} {c : Nat} (hC : kyRd.C w A ks) (h1 : ks.length ≤ c) (h2 : c ≤ 9223372036854775807) (rank : Int) :
    Calls Try.prog 41 #[.pointer (some ⟨m.p, 0, none⟩), .slice A ks.length c, .int .i64 rank] w fun e w' => e = .returned (.bool (lessKB m.R ks rank)) ∧ Below w.heap.size w w' := by
  have hb0 : Below w.heap.size w ((w.alloc (.cells #[.pointer (some ⟨m.p, 0, none⟩)] 51)).alloc (.cells #[.int .i64 rank] 3)) := below_alloc' (below_alloc' (below_refl w) _) _
  have H0 := Lib.hid (h.mono hb0)
  have C0 := Lib.hid (hC.mono hb0)
  have x3 := heap_alloc2_old w (.cells #[.pointer (some ⟨m.p, 0, none⟩)] 51) (.cells #[.int .i64 rank] 3)
  have x5 := heap_alloc2_new w (.cells #[.pointer (some ⟨m.p, 0, none⟩)] 51) (.cells #[.int .i64 rank] 3)
  obtain ⟨b0, hb⟩ : ∃ b0, b0 = w.heap.size := ⟨_, rfl⟩
  have HL := Lib.hid (show lessKB m.R ks rank = !decide (0 ≤ idxP (fun q => decide (rank ≤ m.R q)) ks) by
    unfold lessKB idxP
    cases hf : ks.findIdx? (fun q => decide (rank ≤ m.R q)) with
    | none =>
      rw [List.findIdx?_eq_none_iff] at hf
      rw [show ks.any (fun q => decide (rank ≤ m.R q)) = false from List.any_eq_false.2 (fun x hx => by rw [hf x hx]; decide)]
      rfl
    | some i =>
      obtain ⟨hi, hp, -⟩ := List.findIdx?_eq_some_iff_getElem.1 hf
      rw [show ks.any (fun q => decide (rank ≤ m.R q)) = true from List.any_eq_true.2 ⟨ks[i], List.getElem_mem hi, hp⟩]
      simp)
  go_enter Try.func41, Try.ntmps41
  go_upto_region 1 with fail
  change Code.wp _ _ _ _ ((w.alloc (.cells #[.pointer (some ⟨m.p, 0, none⟩)] 51)).alloc (.cells #[.int .i64 rank] 3))
  rw [← hb] at x3 x5 ⊢
  generalize (w.alloc (.cells #[.pointer (some ⟨m.p, 0, none⟩)] 51)).alloc (.cells #[.int .i64 rank] 3) = w0 at hb0 H0 C0 x3 x5 ⊢
  have CL := Lib.hid (has_keys (g := 52) (lb := #[.pointer (some ⟨b0, 0, none⟩), .pointer (some ⟨b0 + 1, 0, none⟩)]) (fun q => decide (rank ≤ m.R q)) eg_lesser C0.out h1 h2 (fun W x hW => lesser1 (H0.out.mono hW) F (by simpa using blk_cell (blk_below x3 hW) 0) (by simpa using blk_cell (blk_below x5 hW) 0) x))
  have HB0 := Lib.hid hb0
  clear hb0 hb x3 x5 h hC
  go_wp2_with (first
    | (go_at_call 51; refine CL.out.mono ?_; rintro e w' ⟨rfl, hb⟩; have HB := Lib.hid hb; clear hb)
    | fail)
  go_ret
  exact ⟨by rw [HL.out]; rfl, below_then HB0.out HB.out⟩
end Go.Proofs.Ytbidpeggdhkahaa
