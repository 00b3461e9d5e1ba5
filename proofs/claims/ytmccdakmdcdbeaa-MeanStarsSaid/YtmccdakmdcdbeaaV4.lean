/-
  V4: templelaw11.MeanStars answers true.
-/
import Derived.Test.YtmccdakmdcdbeaaV3
set_option linter.unusedSimpArgs false
set_option linter.unusedVariables false
namespace Go.Proofs.Ytmccdakmdcdbeaa
open Go.RowKit

/-! Again and again. -/
inductive Star (k : Int → Int → Prop) : Int → Int → Prop
  | nil (i : Int) : Star k i i
  | cons {i d j : Int} (h : k i d) (s : Star k d j) : Star k i j
theorem Star.snoc {k : Int → Int → Prop} {i p j : Int} (s : Star k i p) (h : k p j) : Star k i j := by
  induction s with
  | nil i => exact .cons h (.nil _)
  | cons h' _ ih => exact .cons h' (ih h)
theorem Star.le {k : Int → Int → Prop} (hk : ∀ a b, k a b → a ≤ b) {i j : Int} (s : Star k i j) : i ≤ j := by
  induction s with
  | nil i => exact Int.le_refl _
  | cons h _ ih => exact Int.le_trans (hk _ _ h) ih
theorem star_last {k : Int → Int → Prop} (hk : ∀ a b, k a b → a ≤ b) {i j : Int} : Star k i j ↔ i = j ∨ ∃ p, i ≤ p ∧ p < j ∧ Star k i p ∧ k p j := by
  constructor
  · intro s
    induction s with
    | nil i => exact .inl rfl
    | @cons i d j h s ih =>
      have hid := hk _ _ h
      rcases ih with rfl | ⟨p, a, b, c, e⟩
      · by_cases he : i = d
        · exact .inl he
        · exact .inr ⟨i, Int.le_refl _, by omega, .nil _, h⟩
      · exact .inr ⟨p, by omega, b, .cons h c, e⟩
  · rintro (rfl | ⟨p, a, b, c, e⟩)
    · exact .nil _
    · exact c.snoc e
section
variable {rs : List Rul} {K : Nat} {bt : Int → Int} {hi : Int} {N : Rk} {P : Nat → Nat → Nat → Int → Int → Int} (V : View rs K bt hi N P)
include V
theorem seq_two_rank {r c p q : Nat} {x : Rul} {neg : Bool} {a b a' b' : Int} (hx : rs[r]? = some x) (hy : x.conj[c]? = some ⟨neg, [⟨(p : Int), a, b⟩, ⟨(q : Int), a', b'⟩]⟩) {i j : Int} (i0 : 0 ≤ i) (ij : i ≤ j) (j1 : j ≤ hi) (h : 0 < P r c 0 i j) :
    ∃ m, i ≤ m ∧ m ≤ j ∧ 0 < N p i m ∧ 0 < N q m j ∧ N q m j < P r c 0 i j := by
  have b1 : BestIs (fun d => N p i (i + d)) (fun d => P r c 1 (i + d) j) (j - i + 1).toNat (P r c 0 i j) := by
    have := V.pName r x c _ 0 _ i j hx hy rfl (by simp) i0 ij j1
    simpa using this
  have b2 : ∀ m : Int, i ≤ m → m ≤ j → BestIs (fun d => N q m (m + d)) (fun d => P r c 2 (m + d) j) (j - m + 1).toNat (P r c 1 m j) := fun m h1 h2 => by
    have := V.pName r x c _ 1 _ m j hx hy rfl (by simp) (by omega) h2 j1
    simpa using this
  have e2 : ∀ m : Int, i ≤ m → m ≤ j → P r c 2 m j = if m = j then 1 else 0 := fun m h1 h2 => V.pEnd r x c _ m j hx hy (by omega) h2 j1
  obtain ⟨d, hd, a1, a2, a3⟩ := b1.is h
  obtain ⟨d', hd', c1, c2, c3⟩ := (b2 (i + d) (by omega) (by omega)).is a2
  have h3 := e2 (i + d + d') (by omega) (by omega)
  by_cases he : i + d + d' = j
  · rw [he] at c1 c3
    exact ⟨i + d, by omega, by omega, a1, c1, by omega⟩
  · rw [if_neg he] at h3; omega
/-- A name whose rules are: nothing, and one name and itself. -/
theorem star_iff {r0 n k : Nat} (h0 : rs[r0]? = some ⟨(n : Int), [⟨false, []⟩]⟩) (h1 : rs[r0 + 1]? = some ⟨(n : Int), [⟨false, [⟨(k : Int), 0, 0⟩, ⟨(n : Int), 0, 0⟩]⟩]⟩) (only : ∀ r x, rs[r]? = some x → x.head.toNat = n → r = r0 ∨ r = r0 + 1) (hn : n < K) :
    ∀ {i j : Int}, 0 ≤ i → i ≤ j → j ≤ hi → (0 < N n i j ↔ Star (fun a b => 0 ≤ a ∧ a ≤ b ∧ b ≤ hi ∧ 0 < N k a b) i j) := by
  have fwd : ∀ (m : Nat) {i j : Int}, 0 ≤ i → i ≤ j → j ≤ hi → 0 < N n i j → N n i j ≤ m → Star (fun a b => 0 ≤ a ∧ a ≤ b ∧ b ≤ hi ∧ 0 < N k a b) i j := by
    intro m
    induction m with
    | zero => intro i j _ _ _ a b; omega
    | succ m ih =>
      intro i j i0 ij j1 hp hm
      obtain ⟨r, x, hr, hh, ho, e⟩ := V.nIs n i j hn i0 ij j1 hp
      rcases only r x hr hh with rfl | rfl
      · rw [h0] at hr
        injection hr with hr
        subst hr
        have h2 := holds_1.1 ho
        have h3 : 0 < P r 0 0 i j := by simpa using h2
        have h4 : P r 0 0 i j = if i = j then 1 else 0 := V.pEnd r _ 0 _ i j h0 rfl i0 ij j1
        by_cases he : i = j
        · subst he; exact .nil _
        · rw [if_neg he] at h4; omega
      · rw [h1] at hr
        injection hr with hr
        subst hr
        have h2 := holds_1.1 ho
        have h3 : 0 < P (r0 + 1) 0 0 i j := by simpa using h2
        obtain ⟨d, a, b, c, e1, e2⟩ := seq_two_rank V h1 (c := 0) rfl i0 ij j1 h3
        have h6 : P (r0 + 1) 0 0 i j + 1 ≤ topTo (fun c => P (r0 + 1) c 0 i j) 1 := topTo_at (f := fun c => P (r0 + 1) c 0 i j) (by decide)
        change N n i j = topTo (fun c => P (r0 + 1) c 0 i j) 1 at e
        exact .cons ⟨i0, a, by omega, c⟩ (ih (by omega) b j1 e1 (by omega))
  intro i j i0 ij j1
  refine ⟨fun h => fwd (N n i j).toNat i0 ij j1 h (by omega), fun s => ?_⟩
  have back : ∀ {a b : Int}, Star (fun a b => 0 ≤ a ∧ a ≤ b ∧ b ≤ hi ∧ 0 < N k a b) a b → 0 ≤ a → b ≤ hi → 0 < N n a b := by
    intro a b s
    induction s with
    | nil a =>
      intro a0 b1
      have h4 : P r0 0 0 a a = if a = a then 1 else 0 := V.pEnd r0 _ 0 _ a a h0 rfl a0 (Int.le_refl _) b1
      rw [if_pos rfl] at h4
      have := V.nLe r0 _ a a h0 (by simpa using hn) a0 (Int.le_refl _) b1 (holds_1.2 (by simp [h4]))
      simpa using this.1
    | @cons a d b h s ih =>
      intro a0 b1
      obtain ⟨q0, q1, q2, q3⟩ := h
      have hdb := Star.le (fun _ _ h => h.2.1) s
      have h5 := (seq_two V h1 (c := 0) rfl a0 (by omega) b1).2 ⟨d, q1, hdb, q3, ih (by omega) b1⟩
      have := V.nLe (r0 + 1) _ a b h1 (by simpa using hn) a0 (by omega) b1 (holds_1.2 (by simpa using h5))
      simpa using this.1
  exact back s i0 j1
end
def starRules (n k : Nat) : List Rul := [⟨(n : Int), [⟨false, []⟩]⟩, ⟨(n : Int), [⟨false, [⟨(k : Int), 0, 0⟩, ⟨(n : Int), 0, 0⟩]⟩]⟩]
theorem star_ans {w w' : World} {t u : TS} {fin fin' : Rk × Rk} (T : Tab w t fin) (U : Tab w' u fin') {k : Nat} (hk : k < t.K) (hG : u.G = extG t.G (starRules t.K k)) (hW : u.W = t.W) {i j : Int} (i0 : 0 ≤ i) (ij : i ≤ j) (j1 : j ≤ t.W.size) :
    0 < u.rank fin'.1 t.K i j ↔ Star (fun a b => 0 ≤ a ∧ a ≤ b ∧ b ≤ t.W.size ∧ 0 < t.rank fin.1 k a b) i j := by
  have hK : u.K = t.K + 1 := by unfold TS.K; rw [hG]; simp [extG]
  have hWs : u.W.size = t.W.size := by rw [hW]
  have EQ := ext_eq T U hG hW (fun x hx => by
    rcases List.mem_cons.1 hx with rfl | hx
    · rfl
    · rw [List.mem_singleton.1 hx])
  have V := U.view
  have h0 : u.G.rules[t.G.rules.length]? = some ⟨(t.K : Int), [⟨false, []⟩]⟩ := by rw [hG]; exact ext_at 0
  have h1 : u.G.rules[t.G.rules.length + 1]? = some ⟨(t.K : Int), [⟨false, [⟨(k : Int), 0, 0⟩, ⟨(t.K : Int), 0, 0⟩]⟩]⟩ := by rw [hG]; exact ext_at 1
  have only : ∀ r x, u.G.rules[r]? = some x → x.head.toNat = t.K → r = t.G.rules.length ∨ r = t.G.rules.length + 1 := fun r x a b => by
    rw [hG] at a
    rcases ext_new a with h | ⟨h3, h⟩
    · have := T.H.F.head r x h; omega
    · have := (List.getElem?_eq_some_iff.1 h).1
      simp [starRules] at this
      omega
  rw [rank_in (by omega) i0 ij (by omega), star_iff V h0 h1 only (by omega) i0 ij (by omega), hWs]
  have : (fun a b => 0 ≤ a ∧ a ≤ b ∧ b ≤ (t.W.size : Int) ∧ 0 < fin'.1 k a b) = (fun a b => 0 ≤ a ∧ a ≤ b ∧ b ≤ (t.W.size : Int) ∧ 0 < t.rank fin.1 k a b) := by
    funext a b
    apply propext
    constructor
    · rintro ⟨q0, q1, q2, q3⟩; exact ⟨q0, q1, q2, by rw [rank_in hk q0 q1 q2, EQ k a b hk q0 q1 q2]; exact q3⟩
    · rintro ⟨q0, q1, q2, q3⟩; exact ⟨q0, q1, q2, by rw [rank_in hk q0 q1 q2, EQ k a b hk q0 q1 q2] at q3; exact q3⟩
  rw [this]
end Go.Proofs.Ytmccdakmdcdbeaa
