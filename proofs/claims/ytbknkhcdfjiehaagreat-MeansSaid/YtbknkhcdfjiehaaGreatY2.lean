/-
  Y1: what a grammar's spoiler may write over, and what lies as it lay.
  Y2: templelaw0.SpoilTexts, SpoilSymbols, SpoilGrammar.
-/
import Derived.Test.YtbknkhcdfjiehaaGreatA6
import Derived.Test.YtbknkhcdfjiehaaGreatC6
import Derived.Test.YtbknkhcdfjiehaaGreatU1
import Derived.Test.YtbknkhcdfjiehaaGreatW3
import Derived.BigRegion
import Derived.Deep.RegionLaw
set_option linter.unusedSimpArgs false
set_option linter.unusedVariables false
namespace Go.Proofs.YtbknkhcdfjiehaaGreat
open Go.RowKit

/-- One value may stand where the other one stood. -/
def Kin (v v' : Value) : Prop := v = v' ∨ (∃ k x y, v = .int k x ∧ v' = .int k y) ∨ (∃ x y, v = .bool x ∧ v' = .bool y) ∨ (∃ x y, v = .string x ∧ v' = .string y)
theorem Kin.trans {a b c : Value} (h : Kin a b) (k : Kin b c) : Kin a c := by
  rcases h with rfl | ⟨q, x, y, rfl, rfl⟩ | ⟨x, y, rfl, rfl⟩ | ⟨x, y, rfl, rfl⟩
  · exact k
  · rcases k with rfl | ⟨q', x', y', e, rfl⟩ | ⟨x', y', e, rfl⟩ | ⟨x', y', e, rfl⟩
    · exact .inr (.inl ⟨_, _, _, rfl, rfl⟩)
    · injection e with e1 e2; subst e1; exact .inr (.inl ⟨_, _, _, rfl, rfl⟩)
    · cases e
    · cases e
  · rcases k with rfl | ⟨q', x', y', e, rfl⟩ | ⟨x', y', e, rfl⟩ | ⟨x', y', e, rfl⟩
    · exact .inr (.inr (.inl ⟨_, _, rfl, rfl⟩))
    · cases e
    · exact .inr (.inr (.inl ⟨_, _, rfl, rfl⟩))
    · cases e
  · rcases k with rfl | ⟨q', x', y', e, rfl⟩ | ⟨x', y', e, rfl⟩ | ⟨x', y', e, rfl⟩
    · exact .inr (.inr (.inr ⟨_, _, rfl, rfl⟩))
    · cases e
    · cases e
    · exact .inr (.inr (.inr ⟨_, _, rfl, rfl⟩))
/-- Only numbers, signs and texts in blocks of R are written over. -/
structure Spo (R : Nat → Prop) (w w' : World) : Prop where
  U : Upd R w w'
  cell : ∀ p v, w.cell? p = some v → ∃ v', w'.cell? p = some v' ∧ Kin v v'
  fro : ∀ p v, w.cell? p = some v → w.frozen? p = false → w'.frozen? p = false
theorem Spo.refl (R : Nat → Prop) (w : World) : Spo R w w := ⟨Upd.refl _ _, fun _ v h => ⟨v, h, .inl rfl⟩, fun _ _ _ h => h⟩
theorem Spo.trans {R : Nat → Prop} {a b c : World} (h : Spo R a b) (k : Spo R b c) : Spo R a c :=
  ⟨h.U.trans k.U, fun p v hv => by
    obtain ⟨v1, h1, k1⟩ := h.cell p v hv
    obtain ⟨v2, h2, k2⟩ := k.cell p v1 h1
    exact ⟨v2, h2, k1.trans k2⟩, fun p v hv hf => by
    obtain ⟨v1, h1, k1⟩ := h.cell p v hv
    exact k.fro p v1 h1 (h.fro p v hv hf)⟩
theorem Spo.of_below {R : Nat → Prop} {w w' : World} (h : Below w.heap.size w w') : Spo R w w' := ⟨Upd.of_below h, fun _ v hc => ⟨v, below_cell h hc, .inl rfl⟩, fun _ _ hc hf => below_froz h hc hf⟩
theorem Spo.below {R : Nat → Prop} {w w1 w2 : World} (h : Spo R w w1) (k : Below w1.heap.size w1 w2) : Spo R w w2 := h.trans (Spo.of_below k)
theorem Spo.setCell {R : Nat → Prop} {w : World} {p : Addr} {v u : Value} (hR : R p.block) (hc : w.cell? p = some v) (hk : Kin v u) : Spo R w (w.setCell p u) :=
  ⟨(Upd.refl R w).setCell hR u, fun q x hq => by
    by_cases e : p = q
    · subst e
      rw [hc] at hq
      injection hq with hq
      subst hq
      exact ⟨u, World.cell?_setCell_same _ _ _ hc, hk⟩
    · exact ⟨x, by rw [World.cell?_setCell_other _ _ _ _ e]; exact hq, .inl rfl⟩, fun q x hq hf => by simpa using hf⟩
theorem Spo.mono {R R' : Nat → Prop} {w w' : World} (h : Spo R w w') (hr : ∀ k, R k → R' k) : Spo R' w w' := ⟨h.U.mono hr, h.cell, h.fro⟩
theorem Spo.slice {R : Nat → Prop} {w w' : World} (h : Spo R w w') {p : Addr} {A : Option Addr} {n c : Nat} (hc : w.cell? p = some (.slice A n c)) : w'.cell? p = some (.slice A n c) := by
  obtain ⟨v, h1, h2⟩ := h.cell p _ hc
  rcases h2 with rfl | ⟨_, _, _, e, _⟩ | ⟨_, _, e, _⟩ | ⟨_, _, e, _⟩
  · exact h1
  all_goals cases e
theorem Spo.int {R : Nat → Prop} {w w' : World} (h : Spo R w w') {p : Addr} {k : IntKind} {x : Int} (hc : w.cell? p = some (.int k x)) : ∃ y, w'.cell? p = some (.int k y) := by
  obtain ⟨v, h1, h2⟩ := h.cell p _ hc
  rcases h2 with rfl | ⟨_, _, y, e, rfl⟩ | ⟨_, _, e, _⟩ | ⟨_, _, e, _⟩
  · exact ⟨x, h1⟩
  · injection e with e1 e2; subst e1; exact ⟨y, h1⟩
  all_goals cases e
theorem Spo.bool {R : Nat → Prop} {w w' : World} (h : Spo R w w') {p : Addr} {x : Bool} (hc : w.cell? p = some (.bool x)) : ∃ y, w'.cell? p = some (.bool y) := by
  obtain ⟨v, h1, h2⟩ := h.cell p _ hc
  rcases h2 with rfl | ⟨_, _, _, e, _⟩ | ⟨_, y, e, rfl⟩ | ⟨_, _, e, _⟩
  · exact ⟨x, h1⟩
  · cases e
  · exact ⟨y, h1⟩
  · cases e
/-- What of a grammar's rules does not turn while it is written over. -/
structure Spn (R : Nat → Prop) (w : World) (rules : List Rul) (Ar : Option Addr) (vc : Nat → Value) (sq : Nat → Nat → Value) : Prop where
  row : ∀ (r : Nat) (x : Rul), rules[r]? = some x → ∃ g, Ar = some ⟨g, 0, none⟩ ∧ R g ∧ (∃ h, w.cell? ⟨g, r * 2, none⟩ = some (.int .i64 h)) ∧ w.frozen? ⟨g, r * 2, none⟩ = false ∧ w.cell? ⟨g, r * 2 + 1, none⟩ = some (vc r)
  con : ∀ (r : Nat) (x : Rul), rules[r]? = some x → ∃ A c, vc r = .slice A x.conj.length c
  cel : ∀ (r : Nat) (x : Rul) (k : Nat) (y : Conj), rules[r]? = some x → x.conj[k]? = some y → ∃ g c, vc r = .slice (some ⟨g, 0, none⟩) x.conj.length c ∧ R g ∧ (∃ b, w.cell? ⟨g, k * 2, none⟩ = some (.bool b)) ∧ w.frozen? ⟨g, k * 2, none⟩ = false ∧ w.cell? ⟨g, k * 2 + 1, none⟩ = some (sq r k)
  seq : ∀ (r : Nat) (x : Rul) (k : Nat) (y : Conj), rules[r]? = some x → x.conj[k]? = some y → ∃ A c, sq r k = .slice A y.seq.length c ∧ ∀ (i : Nat) (s : Sym), y.seq[i]? = some s → ∃ ad, A = some ad ∧ R ad.block ∧ (∃ v, w.cell? (ad.add (i * 3)) = some (.int .i64 v)) ∧ w.frozen? (ad.add (i * 3)) = false
theorem Spn.spo {R R' : Nat → Prop} {w w' : World} {rules : List Rul} {Ar : Option Addr} {vc : Nat → Value} {sq : Nat → Nat → Value} (S : Spn R w rules Ar vc sq) (h : Spo R' w w') : Spn R w' rules Ar vc sq where
  row r x hx := by
    obtain ⟨g, e, hr, ⟨v, q0⟩, f, q1⟩ := S.row r x hx
    obtain ⟨A, c, ec⟩ := S.con r x hx
    exact ⟨g, e, hr, h.int q0, h.fro _ _ q0 f, by rw [ec] at q1 ⊢; exact h.slice q1⟩
  con := S.con
  cel r x k y hx hy := by
    obtain ⟨g, c, e, hr, ⟨v, q0⟩, f, q1⟩ := S.cel r x k y hx hy
    obtain ⟨A, c', ec, -⟩ := S.seq r x k y hx hy
    exact ⟨g, c, e, hr, h.bool q0, h.fro _ _ q0 f, by rw [ec] at q1 ⊢; exact h.slice q1⟩
  seq r x k y hx hy := by
    obtain ⟨A, c, e, H⟩ := S.seq r x k y hx hy
    refine ⟨A, c, e, fun i s hs => ?_⟩
    obtain ⟨ad, eA, hr, ⟨v, q⟩, f⟩ := H i s hs
    exact ⟨ad, eA, hr, h.int q, h.fro _ _ q f⟩
theorem own_cells {w : World} {base n : Nat} {e : TypeId} {sz : Nat} {v : Value} {css : List (List Value)} (h : w.ownsRow base e sz v n css.flatten) (hl : ∀ cs ∈ css, cs.length = sz) {i : Nat} {cs : List Value} (hc : css[i]? = some cs) (hsz : 0 < sz) :
    ∃ g c, v = .slice (some ⟨g, 0, none⟩) n c ∧ base ≤ g ∧ (∃ cur, w.heap[g]? = some (.cells cur e (0, 0))) ∧ ∀ (j : Nat) (u : Value), cs[j]? = some u → w.cell? ⟨g, i * sz + j, none⟩ = some u := by
  rcases h.2 with ⟨rfl, h0⟩ | ⟨g, cap, cur, rfl, hg, hh, _⟩
  · exfalso
    have h1 := h.1
    have h2 := flatten_length hl
    have h3 := (List.getElem?_eq_some_iff.1 hc).1
    rw [h1, h0] at h2
    have : 0 < css.length * sz := Nat.mul_pos (by omega) hsz
    omega
  · refine ⟨g, cap, rfl, hg, ⟨cur, hh⟩, fun j u hu => ?_⟩
    have := h.cells (g := g) rfl _ u (flatten_get hl hc hu)
    rwa [add_plain, Nat.zero_add] at this
theorem deep_spn {B lo : Nat} {w : World} {rules : List Rul} {vr : Value} {vc : Nat → Value} (D : Deep B w rules rules.length vr vc) (hlo : lo ≤ B) : ∃ A c sq, vr = .slice A rules.length c ∧ Spn (fun b => lo ≤ b ∧ b < w.heap.size) w rules A vc sq := by
  have h1 : ∀ r : Nat, ∃ f : Nat → Value, ∀ (x : Rul), rules[r]? = some x → (∃ A c, vc r = .slice A x.conj.length c) ∧ ∀ (k : Nat) (y : Conj), x.conj[k]? = some y →
      (∃ g c, vc r = .slice (some ⟨g, 0, none⟩) x.conj.length c ∧ (lo ≤ g ∧ g < w.heap.size) ∧ (∃ b, w.cell? ⟨g, k * 2, none⟩ = some (.bool b)) ∧ w.frozen? ⟨g, k * 2, none⟩ = false ∧ w.cell? ⟨g, k * 2 + 1, none⟩ = some (f k)) ∧
      ∃ A c, f k = .slice A y.seq.length c ∧ ∀ (i : Nat) (s : Sym), y.seq[i]? = some s → ∃ ad, A = some ad ∧ (lo ≤ ad.block ∧ ad.block < w.heap.size) ∧ (∃ v, w.cell? (ad.add (i * 3)) = some (.int .i64 v)) ∧ w.frozen? (ad.add (i * 3)) = false := by
    intro r
    cases hx : rules[r]? with
    | none => exact ⟨fun _ => undef, fun x h => by cases h⟩
    | some x =>
      have hr : r < rules.length := (List.getElem?_eq_some_iff.1 hx).1
      obtain ⟨css, e1, e2, e3⟩ := D.conj r x hr hx
      have hl : ∀ cs ∈ css, cs.length = dconRd.sz := fun cs hcs => by
        obtain ⟨i, hi, hic⟩ := List.mem_iff_getElem.1 hcs
        exact dconRd.len (e3 i (x.conj[i]'(by omega)) cs (List.getElem?_eq_getElem (by omega)) (by rw [← hic]; exact List.getElem?_eq_getElem hi) w (Upd.refl _ _))
      refine ⟨fun k => ((css.getD k []).getD 1 undef), fun x' hx' => ?_⟩
      injection hx' with hx'
      subst hx'
      refine ⟨?_, fun k y hy => ?_⟩
      · rcases e2.2 with ⟨hv, h0⟩ | ⟨g, cap, cur, hv, _, _, h4, h5, _⟩
        · exact ⟨none, 0, by rw [hv, h0]⟩
        · exact ⟨_, cap, hv⟩
      · have hk : k < css.length := by rw [e1]; exact (List.getElem?_eq_some_iff.1 hy).1
        have hc : css[k]? = some (css[k]'hk) := List.getElem?_eq_getElem hk
        have hK := e3 k y _ hy hc w (Upd.refl _ _)
        obtain ⟨A, c, hcs, hl1, hl2, hsC⟩ := conjRd_open hK.1
        have hf : ((css.getD k []).getD 1 undef) = .slice A y.seq.length c := by
          have hg : css.getD k [] = css[k]'hk := by simp [List.getD_eq_getElem?_getD, hc]
          rw [hg, hcs]
          rfl
        obtain ⟨g, c2, hv, -, ⟨cur, hh⟩, hcell⟩ := own_cells e2 hl hc (by decide)
        rw [show dconRd.sz = 2 from rfl] at hcell
        simp only [hf]
        have hgB := D.blk r g hr (by rw [hv]; rfl)
        refine ⟨⟨g, c2, hv, ⟨by omega, hgB.2.1⟩, ⟨y.neg, ?_⟩, blk_frozen hh _, ?_⟩, A, c, rfl, fun i s hs => ?_⟩
        · have := hcell 0 (.bool y.neg) (by rw [hcs]; rfl)
          simpa using this
        · exact hcell 1 _ (by rw [hcs]; rfl)
        · obtain ⟨ad, eA, hlt, q0, -⟩ := sym_at hsC hs
          refine ⟨ad, eA, ⟨?_, hlt⟩, ⟨_, q0⟩, ?_⟩
          · have hn : ¬ DeepS B rules.length vr vc (ad.add (i * 3)).block := not_S (w := w) fun w' hu => by
              have hK' := e3 k y _ hy hc w' hu
              obtain ⟨A', c', hcs', -, -, hsC'⟩ := conjRd_open hK'.1
              rw [hcs] at hcs'
              simp only [List.cons.injEq, Value.slice.injEq, and_true, true_and] at hcs'
              rw [← hcs'.1, eA] at hsC'
              obtain ⟨ad', eA', -, q', -⟩ := sym_at hsC' hs
              injection eA' with eA'
              subst eA'
              exact ⟨_, q'⟩
            by_cases h : lo ≤ ad.block
            · exact h
            · exact absurd (.inr (.inl (show (ad.add (i * 3)).block < B by rw [add_block]; omega))) hn
          · obtain ⟨cur', e', hb'⟩ := hK.2 _ ad _ _ (by rw [hcs, eA])
            unfold World.frozen?
            rw [add_block, hb']
            simp
  obtain ⟨sq, hsq⟩ := Classical.axiomOfChoice h1
  obtain ⟨css, e1, e2, e3⟩ := D.row
  have hlen : (rawL rules rules.length vc).length = rules.length := by simp [rawL]
  rw [hlen] at e1 e2
  have hl : ∀ cs ∈ css, cs.length = rawRd.sz := fun cs hcs => by
    obtain ⟨i, hi, hic⟩ := List.mem_iff_getElem.1 hcs
    exact rawRd.len (e3 i ((rawL rules rules.length vc)[i]'(by omega)) cs (List.getElem?_eq_getElem (by omega)) (by rw [← hic]; exact List.getElem?_eq_getElem hi) w (Upd.refl _ _))
  have hvr : ∃ A c, vr = .slice A rules.length c := by
    rcases e2.2 with ⟨hv, h0⟩ | ⟨g, cap, cur, hv, _⟩
    · exact ⟨none, 0, by rw [hv, h0]⟩
    · exact ⟨_, cap, hv⟩
  obtain ⟨A, c, hA⟩ := hvr
  refine ⟨A, c, sq, hA, fun r x hx => ?_, fun r x hx => (hsq r x hx).1, fun r x k y hx hy => ((hsq r x hx).2 k y hy).1, fun r x k y hx hy => ((hsq r x hx).2 k y hy).2⟩
  have hr : r < rules.length := (List.getElem?_eq_some_iff.1 hx).1
  have hraw : (rawL rules rules.length vc)[r]? = some (x.head, vc r) := by
    simp [rawL, List.getElem?_map, List.getElem?_range hr, headAt, hx]
  have hk : r < css.length := by omega
  have hc : css[r]? = some (css[r]'hk) := List.getElem?_eq_getElem hk
  have hK := (e3 r _ _ hraw hc w (Upd.refl _ _)).1
  obtain ⟨g, c2, hv, hgB, ⟨cur, hh⟩, hcell⟩ := own_cells e2 hl hc (by decide)
  rw [show rawRd.sz = 2 from rfl] at hcell
  rw [hA] at hv
  injection hv with hv
  refine ⟨g, hv, ⟨by omega, blk_lt hh⟩, ⟨x.head, ?_⟩, blk_frozen hh _, hcell 1 _ (by rw [hK]; rfl)⟩
  have := hcell 0 _ (by rw [hK]; rfl)
  simpa using this
theorem owns_rd {α : Type} {S : Nat → Prop} {d : Rd α} {e : TypeId} {w : World} {v : Value} {xs : List α} (h : OwnS S d e w v xs) (hsz : 0 < d.sz) : ∃ A c, v = .slice A xs.length c ∧ xs.length ≤ c ∧ c ≤ 9223372036854775807 ∧ d.C w A xs := by
  obtain ⟨css, e1, e2, e3⟩ := h
  have hl : ∀ cs ∈ css, cs.length = d.sz := fun cs hcs => by
    obtain ⟨i, hi, hic⟩ := List.mem_iff_getElem.1 hcs
    exact d.len (e3 i (xs[i]'(by omega)) cs (List.getElem?_eq_getElem (by omega)) (by rw [← hic]; exact List.getElem?_eq_getElem hi) w (Upd.refl _ _))
  rcases e2.2 with ⟨hv, h0⟩ | ⟨g, cap, cur, hv, _, hh, h4, h5, _⟩
  · refine ⟨none, 0, by rw [hv, h0], by omega, by omega, fun i x hx => ?_⟩
    have := (List.getElem?_eq_some_iff.1 hx).1
    omega
  · refine ⟨some ⟨g, 0, none⟩, cap, hv, h4, by rw [← maxLen_eq]; exact h5, fun i x hx => ?_⟩
    have hi : i < css.length := by rw [e1]; exact (List.getElem?_eq_some_iff.1 hx).1
    have hc : css[i]? = some (css[i]'hi) := List.getElem?_eq_getElem hi
    have hK := e3 i x _ hx hc w (Upd.refl _ _)
    obtain ⟨g', c2, hv', -, -, hcell⟩ := own_cells e2 hl hc hsz
    rw [hv] at hv'
    injection hv' with hv' _ _
    injection hv' with hv'
    injection hv' with hv'
    subst hv'
    exact ⟨_, _, rfl, hK, fun j u hu => by rw [add_plain, Nat.zero_add]; exact hcell j u hu⟩
theorem deep_rd {B : Nat} {w : World} {rules : List Rul} {vr : Value} {vc : Nat → Value} (D : Deep B w rules rules.length vr vc) : ∃ A c, vr = .slice A rules.length c ∧ rules.length ≤ c ∧ c ≤ 9223372036854775807 ∧ rulRd.C w A rules := by
  obtain ⟨A, c, e, h1, h2, hC⟩ := D.row.shape
  have hlen : (rawL rules rules.length vc).length = rules.length := by simp [rawL]
  rw [hlen] at e h1
  refine ⟨A, c, e, h1, h2, fun r x hx => ?_⟩
  have hr : r < rules.length := (List.getElem?_eq_some_iff.1 hx).1
  have hraw : (rawL rules rules.length vc)[r]? = some (x.head, vc r) := by
    simp [rawL, List.getElem?_map, List.getElem?_range hr, headAt, hx]
  obtain ⟨ad, cs, eA, hK, hc⟩ := hC r _ hraw
  obtain ⟨A1, c1, e1, l1, l2, hC1⟩ := owns_rd (D.conj r x hr hx) (by decide)
  refine ⟨ad, cs, eA, ?_, hc⟩
  rw [hK.1]
  simp only [e1]
  exact rulRd_mk l1 l2 (fun k y hy => by
    obtain ⟨ad', cs', eA', hK', hc'⟩ := hC1 k y hy
    exact ⟨ad', cs', eA', hK'.1, hc'⟩)
end Go.Proofs.YtbknkhcdfjiehaaGreat

set_option linter.unusedSimpArgs false
set_option linter.unusedVariables false
namespace Go.Proofs.YtbknkhcdfjiehaaGreat
open Go.RowKit

theorem add_o (ad : Addr) (n : Nat) : (ad.add n).off = ad.off + n := by
  unfold Addr.add
  by_cases h : n = 0
  · subst h; simp
  · simp [h]
theorem add_ne {ad : Addr} {m n : Nat} (h : m ≠ n) : ad.add m ≠ ad.add n := fun e => by
  have := congrArg Addr.off e
  rw [add_o, add_o] at this
  omega
def SpT (w : World) (R : Nat → Prop) (A : Option Addr) (xs : List ByteArray) (cnt : Value) (wr : World) : Prop := ∃ k : Nat, cnt = .int .i64 k ∧ k ≤ xs.length ∧ Spo R w wr ∧ ∀ (i : Nat) (x : ByteArray) (ad : Addr), k ≤ i → xs[i]? = some x → A = some ad → wr.cell? (ad.add i) = some (.string x)
set_option maxRecDepth 100000 in
set_option maxHeartbeats 4000000 in
theorem spoilT_any {w : World} {xs : List ByteArray} {A : Option Addr} {c : Nat} {R : Nat → Prop} (n1 : xs.length ≤ 1000000) (hs : ∀ x ∈ xs, x.size ≤ 1000000)
    (h : ∀ (i : Nat) (x : ByteArray), xs[i]? = some x → ∃ ad, A = some ad ∧ R ad.block ∧ w.cell? (ad.add i) = some (.string x) ∧ w.frozen? (ad.add i) = false) :
    Calls Tryz.prog 29 #[.slice A xs.length c] w fun e w' => e = .returned (.tuple #[]) ∧ Spo R w w' := by
  have HH := Lib.hid h
  have HS := Lib.hid hs
  clear h hs
  go_enter Tryz.func29, Tryz.ntmps29
  go_wp2_with fail
  go_loopw [2] (fun cnt wr => SpT w R A xs cnt wr) (fun cnt _ => xs.length - (intOf cnt).toNat)
  case atStart => exact ⟨0, rfl, Nat.zero_le _, Spo.refl _ _, fun i x ad _ hx hA => by
    obtain ⟨ad', e, -, q, -⟩ := HH.out i x hx
    rw [hA] at e
    injection e with e
    subst e
    exact q⟩
  case round =>
    obtain ⟨k, rfl, hk, hsp, hre⟩ := hrel
    have HSP := Lib.hid hsp
    have HRE := Lib.hid hre
    clear hsp hre
    by_cases hlt : k < xs.length
    · obtain ⟨x, hx⟩ : ∃ x, xs[k]? = some x := ⟨_, List.getElem?_eq_getElem hlt⟩
      obtain ⟨ad, eA, hr, q, f⟩ := HH.out k x hx
      subst eA
      have q0 := HRE.out k x ad (Nat.le_refl _) hx rfl
      have f0 := HSP.out.fro _ _ q f
      have hki : (k : Int) < xs.length := by omega
      have hsz := HS.out x (List.mem_of_getElem? hx)
      have HR := Lib.hid (show R (ad.add k).block by rw [add_block]; exact hr)
      have Q0 := Lib.hid q0
      clear q f hx hr
      go_wp2_with fail
      go_roundw
      case rel => exact ⟨k + 1, by go_num, by omega, HSP.out.trans (Spo.setCell HR.out Q0.out (.inr (.inr (.inr ⟨_, _, rfl, rfl⟩)))), fun i z ad' hi hz hA => by
        injection hA with hA
        subst hA
        rw [World.cell?_setCell_other _ _ _ _ (add_ne (by omega))]
        exact HRE.out i z ad (by omega) hz rfl⟩
      case measure => simp [intOf]; omega
    · have hke : k = xs.length := by omega
      subst hke
      go_wp2_with fail
      go_end0
      exact ⟨rfl, HSP.out⟩
def SpO (w : World) (R : Nat → Prop) (n : Nat) (cnt : Value) (wr : World) : Prop := ∃ k : Nat, cnt = .int .i64 k ∧ k ≤ n ∧ Spo R w wr
set_option maxRecDepth 100000 in
set_option maxHeartbeats 4000000 in
theorem spoilS_any {w : World} {n : Nat} {A : Option Addr} {c : Nat} {R : Nat → Prop} (n1 : n ≤ 1000000)
    (h : ∀ (i : Nat), i < n → ∃ ad, A = some ad ∧ R ad.block ∧ (∃ v, w.cell? (ad.add (i * 3)) = some (.int .i64 v)) ∧ w.frozen? (ad.add (i * 3)) = false) :
    Calls Tryz.prog 30 #[.slice A n c] w fun e w' => e = .returned (.tuple #[]) ∧ Spo R w w' := by
  have HH := Lib.hid h
  clear h
  go_enter Tryz.func30, Tryz.ntmps30
  go_wp2_with fail
  go_loopw [2] (fun cnt wr => SpO w R n cnt wr) (fun cnt _ => n - (intOf cnt).toNat)
  case atStart => exact ⟨0, rfl, Nat.zero_le _, Spo.refl _ _⟩
  case round =>
    obtain ⟨k, rfl, hk, hsp⟩ := hrel
    have HSP := Lib.hid hsp
    clear hsp
    by_cases hlt : k < n
    · obtain ⟨ad, eA, hr, ⟨v, q⟩, f⟩ := HH.out k hlt
      subst eA
      obtain ⟨y, q0⟩ := HSP.out.int q
      have f0 := HSP.out.fro _ _ q f
      have hki : (k : Int) < n := by omega
      have HR := Lib.hid (show R (ad.add (k * 3)).block by rw [add_block]; exact hr)
      have Q0 := Lib.hid q0
      clear q f hr
      go_wp2_with fail
      go_roundw
      case rel => exact ⟨k + 1, by go_num, by omega, HSP.out.trans (Spo.setCell HR.out Q0.out (.inr (.inl ⟨_, _, _, rfl, rfl⟩)))⟩
      case measure => simp [intOf]; omega
    · have hke : k = n := by omega
      subst hke
      go_wp2_with fail
      go_end0
      exact ⟨rfl, HSP.out⟩

set_option maxRecDepth 100000 in
set_option maxHeartbeats 8000000 in
theorem spoilG_any {w : World} (G : Gram) {A A' : Option Addr} {c c' : Nat} {R : Nat → Prop} {vc : Nat → Value} {sq : Nat → Nat → Value} (hR : ∀ b, R b → b < w.heap.size) (hM : MayG G) (hnm : ∀ x ∈ G.names, x.size ≤ 1000000)
    (hN : ∀ (i : Nat) (x : ByteArray), G.names[i]? = some x → ∃ ad, A = some ad ∧ R ad.block ∧ w.cell? (ad.add i) = some (.string x) ∧ w.frozen? (ad.add i) = false) (S : Spn R w G.rules A' vc sq) :
    Calls Tryz.prog 10 #[.agg #[.int .i64 G.start, .slice A G.names.length c, .slice A' G.rules.length c']] w fun e w' => e = .returned (.tuple #[]) ∧ Spo R w w' := by
  have hK := hM.K64
  have hRL := hM.rules
  have hb0 : Below w.heap.size w (w.alloc (Obj.cells #[Value.int .i64 G.start, Value.slice A G.names.length c, Value.slice A' G.rules.length c'] 25)) := below_alloc' (below_refl w) _
  have B0 := heap_alloc_new w (Obj.cells #[Value.int .i64 G.start, Value.slice A G.names.length c, Value.slice A' G.rules.length c'] 25)
  have HN := Lib.hid hN
  have HS := Lib.hid S
  obtain ⟨bg, hbg⟩ : ∃ bg, bg = w.heap.size := ⟨_, rfl⟩
  have HBG := Lib.hid (show ¬ R bg from fun h => by have := hR bg h; omega)
  have HG := Lib.hid B0
  have HB0 := Lib.hid hb0
  clear hN S hb0 B0 hR
  go_enter Tryz.func10, Tryz.ntmps10
  go_upto_region 1 with fail
  rw [← hbg] at HG ⊢
  clear hbg
  generalize w.alloc (Obj.cells #[Value.int .i64 G.start, Value.slice A G.names.length c, Value.slice A' G.rules.length c'] 25) = w0 at HG HB0 ⊢
  have x0 : w0.cell? ⟨bg, 0, none⟩ = some (.int .i64 G.start) := blk_cell HG.out 0
  have x1 : w0.cell? ⟨bg, 1, none⟩ = some (.slice A G.names.length c) := blk_cell HG.out 1
  have x2 : w0.cell? ⟨bg, 2, none⟩ = some (.slice A' G.rules.length c') := blk_cell HG.out 2
  have CT := Lib.hid (spoilT_any (w := w0) (xs := G.names) (A := A) (c := c) (R := R) (by omega) hnm (fun i x hx => by
    obtain ⟨ad, e, hr, q, f⟩ := HN.out i x hx
    exact ⟨ad, e, hr, below_cell HB0.out q, below_froz HB0.out q f⟩))
  go_wp2_with (first | (go_at_call 29; refine CT.out.mono ?_; rintro e w1 ⟨rfl, hs1⟩; have HS1 := Lib.hid hs1; clear hs1 x0 x1 x2 CT) | fail)
  go_loopw [2] (fun cnt wr => SpO w0 R G.rules.length cnt wr) (fun cnt _ => G.rules.length - (intOf cnt).toNat)
  case atStart => exact ⟨0, rfl, Nat.zero_le _, HS1.out⟩
  case round =>
    clear HS1
    obtain ⟨i, rfl, hi, hsp⟩ := hrel
    have HSP := Lib.hid hsp
    have x2 : wr.cell? ⟨bg, 2, none⟩ = some (.slice A' G.rules.length c') := hsp.U.cell (blk_cell HG.out 2) HBG.out
    clear hsp
    by_cases hlt : i < G.rules.length
    · obtain ⟨x, hx⟩ : ∃ x, G.rules[i]? = some x := ⟨_, List.getElem?_eq_getElem hlt⟩
      have hcl := hM.conj i x hx
      have b1 : (i : Int) < G.rules.length := by omega
      have HX := Lib.hid hx
      obtain ⟨g, eA, hg, -⟩ := HS.out.row i x hx
      subst eA
      obtain ⟨A1, c1, ev⟩ := HS.out.con i x hx
      have HEV := Lib.hid ev
      have HX2 := Lib.hid (fun (wz : World) (hz : Spo R w0 wz) => show wz.cell? ⟨bg, 2, none⟩ = some (.slice (some ⟨g, 0, none⟩) G.rules.length c') from hz.U.cell (blk_cell HG.out 2) HBG.out)
      have HROW := Lib.hid (fun (wz : World) (hz : Spo R w0 wz) => show (∃ h, wz.cell? ⟨g, i * 2, none⟩ = some (.int .i64 h)) ∧ wz.frozen? ⟨g, i * 2, none⟩ = false ∧ wz.cell? ⟨g, i * 2 + 1, none⟩ = some (.slice A1 x.conj.length c1) from by
        obtain ⟨g', eA', -, h, f, q⟩ := ((HS.out.spo (Spo.of_below (R := R) HB0.out)).spo hz).row i x HX.out
        injection eA' with eA'
        injection eA' with eA'
        subst eA'
        rw [HEV.out] at q
        exact ⟨h, f, q⟩)
      have q1 := (HROW.out wr HSP.out).2.2
      clear hx ev
      go_wp2_with fail
      clear q1 x2
      go_loopw [3] (fun cnt wi => SpO w0 R x.conj.length cnt wi) (fun cnt _ => x.conj.length - (intOf cnt).toNat)
      case atStart => exact ⟨0, rfl, Nat.zero_le _, HSP.out⟩
      case round =>
        clear HSP
        obtain ⟨j, rfl, hj, hsp⟩ := hrel
        have HSP := Lib.hid hsp
        have x2 := HX2.out wr hsp
        have q1 := (HROW.out wr hsp).2.2
        clear hsp
        by_cases hltj : j < x.conj.length
        · obtain ⟨y, hy⟩ : ∃ y, x.conj[j]? = some y := ⟨_, List.getElem?_eq_getElem hltj⟩
          obtain ⟨g2, c2, ev2, hg2, -⟩ := HS.out.cel i x j y HX.out hy
          obtain ⟨A3, c3, es, -⟩ := HS.out.seq i x j y HX.out hy
          have HY := Lib.hid hy
          rw [HEV.out] at ev2
          injection ev2 with ev2 _ ev3
          subst ev2
          have hsl := hM.seq i x j y HX.out hy
          have HSL := Lib.hid hsl
          have HES := Lib.hid es
          have HCEL := Lib.hid (fun (wz : World) (hz : Spo R w0 wz) => show (∃ h, wz.cell? ⟨g2, j * 2, none⟩ = some (.bool h)) ∧ wz.frozen? ⟨g2, j * 2, none⟩ = false ∧ wz.cell? ⟨g2, j * 2 + 1, none⟩ = some (.slice A3 y.seq.length c3) from by
            obtain ⟨g', c', eA', -, h, f, q⟩ := ((HS.out.spo (Spo.of_below (R := R) HB0.out)).spo hz).cel i x j y HX.out HY.out
            rw [HEV.out] at eA'
            injection eA' with eA' _ _
            injection eA' with eA'
            injection eA' with eA'
            subst eA'
            rw [HES.out] at q
            exact ⟨h, f, q⟩)
          have HSEQ := Lib.hid (fun (wz : World) (hz : Spo R w0 wz) => spoilS_any (w := wz) (n := y.seq.length) (A := A3) (c := c3) (R := R) (by have := HSL.out; omega) (fun k hk => by
            obtain ⟨A', c', es', H⟩ := ((HS.out.spo (Spo.of_below (R := R) HB0.out)).spo hz).seq i x j y HX.out HY.out
            rw [HES.out] at es'
            injection es' with es' _ _
            subst es'
            exact H k _ (List.getElem?_eq_getElem hk)))
          have q2 := (HCEL.out wr HSP.out).2.2
          have b2 : (j : Int) < x.conj.length := by omega
          have HRG := Lib.hid hg2
          clear hy es ev3 hg2
          go_upto_region 9 with (first | (go_at_call 30; refine (HSEQ.out _ HSP.out).mono ?_; rintro e w5 ⟨rfl, hs5⟩; have HS5 := Lib.hid (HSP.out.trans hs5); clear hs5 x2 q1 q2) | fail)
          have x2 := HX2.out w5 HS5.out
          have q1 := (HROW.out w5 HS5.out).2.2
          obtain ⟨⟨bb, q3⟩, f3, -⟩ := HCEL.out w5 HS5.out
          have Q3 := Lib.hid q3
          go_region_law (fail)
          all_goals
            go_wp2_with fail
            go_roundw
            case rel =>
              refine ⟨j + 1, by go_num, by omega, ?_⟩
              have hz := HS5.out.trans (Spo.setCell (u := .bool (!bb)) HRG.out Q3.out (.inr (.inr (.inl ⟨_, _, rfl, rfl⟩))))
              first
                | exact hz
                | exact hz.below (below_drew' (below_refl _))
            case measure => simp [intOf]; omega
        · have hje : j = x.conj.length := by omega
          subst hje
          obtain ⟨⟨hh, q3⟩, f3, -⟩ := HROW.out wr HSP.out
          have Q3 := Lib.hid q3
          have HRG := Lib.hid hg
          clear hg
          go_upto_region 10 with fail
          go_region_law (fail)
          all_goals
            go_wp2_with fail
            go_roundw
            case rel =>
              refine ⟨i + 1, by go_num, by omega, ?_⟩
              first
                | exact HSP.out.trans (Spo.setCell HRG.out Q3.out (.inr (.inl ⟨_, _, _, rfl, rfl⟩)))
                | exact (HSP.out.trans (Spo.setCell HRG.out Q3.out (.inr (.inl ⟨_, _, _, rfl, rfl⟩)))).below (below_drew' (below_refl _))
            case measure => simp [intOf]; omega
    · have hie : i = G.rules.length := by omega
      subst hie
      go_wp2_with fail
      go_end0
      exact ⟨rfl, (Spo.of_below HB0.out).trans HSP.out⟩
end Go.Proofs.YtbknkhcdfjiehaaGreat
