/-
  I3: the picks of what is so; the names beneath a name; trees in preorder: plain. No program in sight.
-/
import Derived.Test.YtbidpeggdhkahaaI1
set_option linter.unusedSimpArgs false
set_option linter.unusedVariables false
namespace Go.Proofs.Ytbidpeggdhkahaa
open Go.RowKit

section
variable {R : Ky → Int} {G : Gram} {W : ByteArray}
theorem rulesTo_mem {k : Ky} {sign : Bool} {s : Stp} : ∀ {n : Nat}, s ∈ rulesTo R G k sign n → ∃ (r : Nat) (x : Rul), r < n ∧ G.rules[r]? = some x ∧ s ∈ ruleStep R k sign r x := by
  intro n
  induction n with
  | zero => intro h; cases h
  | succ n ih =>
    intro h
    unfold rulesTo at h
    rcases List.mem_append.1 h with h | h
    · obtain ⟨r, x, hr, hx, hs⟩ := ih h
      exact ⟨r, x, by omega, hx, hs⟩
    · cases hx : G.rules[n]? with
      | none => rw [hx] at h; cases h
      | some x => rw [hx] at h; exact ⟨n, x, by omega, hx, h⟩
theorem rulesTo_has {k : Ky} {sign : Bool} {s : Stp} {r : Nat} {x : Rul} (hx : G.rules[r]? = some x) (hs : s ∈ ruleStep R k sign r x) : ∀ {n : Nat}, r < n → s ∈ rulesTo R G k sign n := by
  intro n
  induction n with
  | zero => intro h; omega
  | succ n ih =>
    intro h
    unfold rulesTo
    by_cases hr : r < n
    · exact List.mem_append_left _ (ih hr)
    · have : r = n := by omega
      subst this
      rw [hx]
      exact List.mem_append_right _ hs
theorem splitsTo_mem {k : Ky} {nm : Int} {sign : Bool} {s : Stp} : ∀ {n : Nat}, s ∈ splitsTo R k nm sign n → ∃ d : Nat, d < n ∧ s ∈ splitStep R k nm sign (k.i + d) := by
  intro n
  induction n with
  | zero => intro h; cases h
  | succ n ih =>
    intro h
    unfold splitsTo at h
    rcases List.mem_append.1 h with h | h
    · obtain ⟨d, hd, hs⟩ := ih h
      exact ⟨d, by omega, hs⟩
    · exact ⟨n, by omega, h⟩
theorem splitsTo_has {k : Ky} {nm : Int} {sign : Bool} {s : Stp} {d : Nat} (hs : s ∈ splitStep R k nm sign (k.i + d)) : ∀ {n : Nat}, d < n → s ∈ splitsTo R k nm sign n := by
  intro n
  induction n with
  | zero => intro h; omega
  | succ n ih =>
    intro h
    unfold splitsTo
    by_cases hr : d < n
    · exact List.mem_append_left _ (ih hr)
    · have : d = n := by omega
      subst this
      exact List.mem_append_right _ hs
theorem lessKB_iff {ks : List Ky} {rank : Int} : lessKB R ks rank = true ↔ ∀ q ∈ ks, R q < rank := by
  unfold lessKB
  rw [Bool.not_eq_true', List.any_eq_false]
  constructor
  · intro h q hq
    have := h q hq
    simp only [decide_eq_true_eq] at this
    omega
  · intro h q hq
    have := h q hq
    simp only [decide_eq_true_eq]
    omega
/-- Of ways among which one has lesser ranks the first such one is kept. -/
theorem chosenB_one {all : List Stp} {rank : Int} {s0 : Stp} (h0 : s0 ∈ all) (hl : lessKB R s0.kids rank = true) : ∃ s, s ∈ all ∧ lessKB R s.kids rank = true ∧ chosenB R false all rank = [s] := by
  unfold chosenB
  rw [if_neg (by decide)]
  cases hf : all.find? (fun s => lessKB R s.kids rank) with
  | none =>
    have := List.find?_eq_none.1 hf s0 h0
    exact absurd hl this
  | some s => exact ⟨s, List.mem_of_find?_eq_some hf, by simpa using List.find?_some hf, rfl⟩

/-- The pick of a name that is so. -/
theorem name_pick (H : RkOK R G W) {k : Ky} (h : 0 < R k) (hk : k.kind = 0) : ∃ (r : Nat) (x : Rul), G.rules[r]? = some x ∧ x.head = k.name ∧ holdsK R k r x = true ∧ (∀ c, c < x.conj.length → R (ckey r c k) < R k) ∧
    picksB R G W false k = [⟨r, 0, conjKeys k r x⟩] := by
  obtain ⟨r0, x0, hx0, hh0, hH0, hl0⟩ := H.name k h hk
  have hs0 : (⟨r0, 0, conjKeys k r0 x0⟩ : Stp) ∈ ruleStep R k true r0 x0 := by
    unfold ruleStep
    rw [if_pos ⟨hh0, hH0⟩]
    simp
  have hl : lessKB R (conjKeys k r0 x0) (R k) = true := by
    rw [lessKB_iff]
    intro q hq
    unfold conjKeys at hq
    obtain ⟨c, hc, rfl⟩ := List.mem_map.1 hq
    exact hl0 c (List.mem_range.1 hc)
  obtain ⟨s, hs, hls, e⟩ := chosenB_one (R := R) (rulesTo_has hx0 hs0 (n := G.rules.length) (List.getElem?_eq_some_iff.1 hx0).1) hl
  obtain ⟨r, x, hr, hx, hs⟩ := rulesTo_mem hs
  unfold ruleStep at hs
  split at hs
  · rename_i hc
    simp only [if_true, List.mem_singleton] at hs
    subst hs
    refine ⟨r, x, hx, hc.1, hc.2, fun c hcl => ?_, ?_⟩
    · exact (lessKB_iff.1 hls) _ (List.mem_map.2 ⟨c, List.mem_range.2 hcl, rfl⟩)
    · unfold picksB
      rw [if_pos hk, if_pos h]
      exact e
  · cases hs

/-- The pick of a rest that is so. -/
theorem seq_pick (H : RkOK R G W) {k : Ky} (h : 0 < R k) (hk : k.kind ≠ 0) :
    (symOf G k.plc = none ∧ k.i = k.j ∧ picksB R G W false k = []) ∨
    (∃ s, symOf G k.plc = some s ∧ s.name < 0 ∧ k.i < k.j ∧ s.lo ≤ btz W k.i ∧ btz W k.i ≤ s.hi ∧ 0 < R (seqKey (onP k.plc) (k.i + 1) k.j) ∧ R (seqKey (onP k.plc) (k.i + 1) k.j) < R k ∧
      picksB R G W false k = [⟨k.i + 1, 0, [seqKey (onP k.plc) (k.i + 1) k.j]⟩]) ∨
    (∃ s at', symOf G k.plc = some s ∧ 0 ≤ s.name ∧ k.i ≤ at' ∧ at' ≤ k.j ∧ 0 < R (nameKey s.name k.i at') ∧ 0 < R (seqKey (onP k.plc) at' k.j) ∧ R (nameKey s.name k.i at') < R k ∧ R (seqKey (onP k.plc) at' k.j) < R k ∧
      picksB R G W false k = [⟨at', 0, [nameKey s.name k.i at', seqKey (onP k.plc) at' k.j]⟩]) := by
  cases hs : symOf G k.plc with
  | none =>
    refine .inl ⟨rfl, (H.fin k h hk hs).1, ?_⟩
    unfold picksB
    rw [if_neg hk, hs]
  | some s =>
    by_cases hn : s.name < 0
    · obtain ⟨h1, h2, h3, h4, h5⟩ := H.byte k s h hk hs hn
      refine .inr (.inl ⟨s, rfl, hn, h1, h2, h3, h4, h5, ?_⟩)
      unfold picksB
      rw [if_neg hk, hs]
      simp only [if_pos hn]
      unfold byteStep
      rw [if_neg (by omega)]
    · have hn' : 0 ≤ s.name := by omega
      obtain ⟨d, hd, f1, f2, f3, f4⟩ := H.split k s h hk hs hn'
      have hs0 : (⟨k.i + d, 0, [nameKey s.name k.i (k.i + d), seqKey (onP k.plc) (k.i + d) k.j]⟩ : Stp) ∈ splitStep R k s.name true (k.i + d) := by
        unfold splitStep
        rw [if_pos rfl, if_pos ⟨f1, f2⟩]
        exact List.mem_singleton.2 rfl
      have hl : lessKB R [nameKey s.name k.i (k.i + d), seqKey (onP k.plc) (k.i + d) k.j] (R k) = true := by
        rw [lessKB_iff]
        intro q hq
        simp only [List.mem_cons, List.mem_nil_iff, or_false] at hq
        rcases hq with rfl | rfl
        · exact f3
        · exact f4
      obtain ⟨s', hs', hls, e⟩ := chosenB_one (R := R) (splitsTo_has hs0 (n := (k.j - k.i + 1).toNat) (by omega)) hl
      obtain ⟨d', hd', hs'⟩ := splitsTo_mem hs'
      unfold splitStep at hs'
      rw [if_pos rfl] at hs'
      split at hs'
      · rename_i hc
        rw [List.mem_singleton] at hs'
        subst hs'
        have h1 := lessKB_iff.1 hls
        refine .inr (.inr ⟨s, k.i + d', rfl, hn', by omega, by omega, hc.1, hc.2, h1 _ (by simp), h1 _ (by simp), ?_⟩)
        unfold picksB
        rw [if_neg hk, hs]
        simp only [if_neg hn, if_pos h]
        exact e
      · cases hs'

theorem along_ok (H : RkOK R G W) : ∀ (n : Nat) (k : Ky), 0 < R k → k.kind ≠ 0 → ∀ a ∈ alongTo R G W n k, a.kind = 0 ∧ 0 < R a ∧ R a < R k ∧ k.i ≤ a.i ∧ a.j ≤ k.j := by
  intro n
  induction n with
  | zero => intro k _ _ a ha; cases ha
  | succ n ih =>
    intro k h hk a ha
    rcases seq_pick H h hk with ⟨-, -, e⟩ | ⟨s, -, -, h1, -, -, h4, h5, e⟩ | ⟨s, at', -, -, h1, h2, h3, h4, h5, h6, e⟩
    · simp only [alongTo, e] at ha; cases ha
    · simp only [alongTo, e] at ha
      obtain ⟨g1, g2, g3, g4, g5⟩ := ih _ h4 (by simp [seqKey]) a ha
      have g4' : k.i + 1 ≤ a.i := g4
      have g5' : a.j ≤ k.j := g5
      exact ⟨g1, g2, by omega, by omega, g5'⟩
    · simp only [alongTo, e] at ha
      rcases List.mem_cons.1 ha with rfl | ha
      · exact ⟨rfl, h3, h5, Int.le_refl _, h2⟩
      · obtain ⟨g1, g2, g3, g4, g5⟩ := ih _ h4 (by simp [seqKey]) a ha
        have g4' : at' ≤ a.i := g4
        have g5' : a.j ≤ k.j := g5
        exact ⟨g1, g2, by omega, by omega, g5'⟩
theorem conjKeys_at {k : Ky} {r : Nat} {x : Rul} {c : Nat} (hc : c < x.conj.length) : (conjKeys k r x)[c]? = some (ckey r c k) := by
  unfold conjKeys
  rw [List.getElem?_map, List.getElem?_range hc]
  rfl
theorem holdsK_at {k : Ky} {r : Nat} {x : Rul} (hH : holdsK R k r x = true) {c : Nat} {y : Conj} (hy : x.conj[c]? = some y) (hn : y.neg = false) : 0 < R (ckey r c k) := by
  unfold holdsK at hH
  have := List.all_eq_true.1 hH c (List.mem_range.2 (List.getElem?_eq_some_iff.1 hy).1)
  unfold cOK at this
  rw [hy] at this
  simpa [hn] using this
theorem parts_ok (H : RkOK R G W) {k : Ky} {r : Nat} {x : Rul} (hH : holdsK R k r x = true) (hl : ∀ c, c < x.conj.length → R (ckey r c k) < R k) :
    ∀ n, n ≤ x.conj.length → ∀ a ∈ partsTo R G W x (conjKeys k r x) n, a.kind = 0 ∧ 0 < R a ∧ R a < R k ∧ k.i ≤ a.i ∧ a.j ≤ k.j := by
  intro n
  induction n with
  | zero => intro _ a ha; cases ha
  | succ n ih =>
    intro hn a ha
    unfold partsTo at ha
    rcases List.mem_append.1 ha with ha | ha
    · exact ih (by omega) a ha
    · obtain ⟨y, hy⟩ : ∃ y, x.conj[n]? = some y := ⟨_, List.getElem?_eq_getElem (by omega)⟩
      rw [hy, conjKeys_at (by omega)] at ha
      simp only at ha
      split at ha
      · cases ha
      · rename_i hneg
        have hpos := holdsK_at hH hy (by simpa using hneg)
        obtain ⟨g1, g2, g3, g4, g5⟩ := along_ok H 66 _ hpos (by simp [ckey, seqKey]) a ha
        have := hl n (by omega)
        exact ⟨g1, g2, by omega, g4, g5⟩
/-- What stands beneath a name that is so. -/
theorem beneath_ok (H : RkOK R G W) {k : Ky} (h : 0 < R k) (hk : k.kind = 0) : ∃ (r : Nat) (x : Rul), G.rules[r]? = some x ∧ x.head = k.name ∧ holdsK R k r x = true ∧ (∀ c, c < x.conj.length → R (ckey r c k) < R k) ∧
    picksB R G W false k = [⟨r, 0, conjKeys k r x⟩] ∧ beneathB R G W k = ((r : Int), partsTo R G W x (conjKeys k r x) x.conj.length) ∧ ∀ a ∈ (beneathB R G W k).2, a.kind = 0 ∧ 0 < R a ∧ R a < R k ∧ k.i ≤ a.i ∧ a.j ≤ k.j := by
  obtain ⟨r, x, hx, hh, hH, hl, e⟩ := name_pick H h hk
  have hb : beneathB R G W k = ((r : Int), partsTo R G W x (conjKeys k r x) x.conj.length) := by
    unfold beneathB
    rw [e]
    simp only [Int.toNat_natCast, hx]
    rw [show (conjKeys k r x).length = x.conj.length by simp [conjKeys]]
  refine ⟨r, x, hx, hh, hH, hl, e, hb, ?_⟩
  rw [hb]
  exact parts_ok H hH hl _ (Nat.le_refl _)

theorem flatMap_same {α β : Type} {f g : α → List β} : ∀ {l : List α}, (∀ a ∈ l, f a = g a) → l.flatMap f = l.flatMap g := by
  intro l
  induction l with
  | nil => intro _; rfl
  | cons a l ih => intro h; rw [List.flatMap_cons, List.flatMap_cons, h a (by simp), ih (fun b hb => h b (by simp [hb]))]
theorem preT_same (H : RkOK R G W) : ∀ (n m : Nat) (k : Ky), k.kind = 0 → 0 < R k → R k ≤ n → R k ≤ m → preT R G W n k = preT R G W m k := by
  intro n
  induction n with
  | zero => intro m k _ h h1 _; omega
  | succ n ih =>
    intro m k hk h h1 h2
    obtain ⟨m, rfl⟩ : ∃ m', m = m' + 1 := ⟨m - 1, by omega⟩
    obtain ⟨-, -, -, -, -, -, -, -, hb⟩ := beneath_ok H h hk
    unfold preT
    rw [flatMap_same (fun a ha => ?_)]
    obtain ⟨g1, g2, g3, -, -⟩ := hb a ha
    exact ih m a g1 g2 (by omega) (by omega)
variable (R G W) in
/-- The tree beneath a key, in preorder. -/
def treeOf (k : Ky) : List Brn := preT R G W (R k).toNat k
theorem treeOf_eq (H : RkOK R G W) {k : Ky} (h : 0 < R k) (hk : k.kind = 0) : treeOf R G W k = brnOf R G W k :: (beneathB R G W k).2.flatMap (treeOf R G W) := by
  obtain ⟨n, hn⟩ : ∃ n, (R k).toNat = n + 1 := ⟨(R k).toNat - 1, by omega⟩
  obtain ⟨-, -, -, -, -, -, -, -, hb⟩ := beneath_ok H h hk
  unfold treeOf
  rw [hn]
  show brnOf R G W k :: _ = _
  rw [flatMap_same (fun a ha => ?_)]
  obtain ⟨g1, g2, g3, -, -⟩ := hb a ha
  exact preT_same H _ _ a g1 g2 (by omega) (by omega)
theorem firstGo_out (H : RkOK R G W) : ∀ (n : Nat) (out : List Brn) (st : List Ky) (o : List Brn), (∀ k ∈ st, k.kind = 0 ∧ 0 < R k) → firstGo R G W n out st = some o → o = out ++ st.flatMap (treeOf R G W) := by
  intro n
  induction n with
  | zero => intro out st o _ h; cases h
  | succ n ih =>
    intro out st o hst h
    cases st with
    | nil => simp only [firstGo, Option.some.injEq] at h; rw [← h]; simp
    | cons k st =>
      simp only [firstGo] at h
      split at h
      · cases h
      · obtain ⟨hk, hp⟩ := hst k (by simp)
        obtain ⟨-, -, -, -, -, -, -, -, hb⟩ := beneath_ok H hp hk
        have := ih _ _ _ (fun a ha => by
          rcases List.mem_append.1 ha with ha | ha
          · exact ⟨(hb a ha).1, (hb a ha).2.1⟩
          · exact hst a (by simp [ha])) h
        rw [this, List.flatMap_cons, treeOf_eq H hp hk, List.flatMap_append]
        simp
theorem flat_ge (H : RkOK R G W) : ∀ {st : List Ky}, (∀ k ∈ st, k.kind = 0 ∧ 0 < R k) → st.length ≤ (st.flatMap (treeOf R G W)).length := by
  intro st
  induction st with
  | nil => intro _; simp
  | cons k st ih =>
    intro h
    obtain ⟨hk, hp⟩ := h k (by simp)
    have := ih (fun a ha => h a (by simp [ha]))
    rw [List.flatMap_cons, treeOf_eq H hp hk]
    simp only [List.length_append, List.length_cons]
    omega
/-- A tree that is small enough is made. -/
theorem firstGo_some (H : RkOK R G W) : ∀ (n : Nat) (out : List Brn) (st : List Ky), (∀ k ∈ st, k.kind = 0 ∧ 0 < R k) → (st.flatMap (treeOf R G W)).length < n → out.length + (st.flatMap (treeOf R G W)).length ≤ 4096 →
    firstGo R G W n out st = some (out ++ st.flatMap (treeOf R G W)) := by
  intro n
  induction n with
  | zero => intro out st _ h _; omega
  | succ n ih =>
    intro out st hst h1 h2
    cases st with
    | nil => simp [firstGo]
    | cons k st =>
      obtain ⟨hk, hp⟩ := hst k (by simp)
      obtain ⟨-, -, -, -, -, -, -, -, hb⟩ := beneath_ok H hp hk
      have hst' : ∀ a ∈ (beneathB R G W k).2 ++ st, a.kind = 0 ∧ 0 < R a := fun a ha => by
        rcases List.mem_append.1 ha with ha | ha
        · exact ⟨(hb a ha).1, (hb a ha).2.1⟩
        · exact hst a (by simp [ha])
      have hf : (k :: st).flatMap (treeOf R G W) = brnOf R G W k :: ((beneathB R G W k).2 ++ st).flatMap (treeOf R G W) := by
        rw [List.flatMap_cons, treeOf_eq H hp hk, List.flatMap_append]; rfl
      rw [hf] at h1 h2 ⊢
      have hge := flat_ge H hst'
      simp only [List.length_cons] at h1 h2
      simp only [firstGo]
      rw [if_neg (by simp only [List.length_append, List.length_cons, List.length_nil] at hge ⊢; omega)]
      rw [ih _ _ hst' (by omega) (by simp only [List.length_append, List.length_cons, List.length_nil] at h2 ⊢; omega)]
      simp
end
end Go.Proofs.Ytbidpeggdhkahaa
