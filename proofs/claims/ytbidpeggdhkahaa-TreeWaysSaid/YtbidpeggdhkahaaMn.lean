/-
  M9: mean.New: what it makes, and the words for it.
  Mn: mean.New: the table that it leaves.
-/
import Derived.Test.YtbidpeggdhkahaaA3
import Derived.Test.YtbidpeggdhkahaaMp
import Derived.Test.YtbidpeggdhkahaaM7
import Derived.Test.YtbidpeggdhkahaaM8
import Derived.Test.YtbidpeggdhkahaaA6
import Derived.Deep.RegionLaw
import Derived.BigRegion
import Derived.Laws.MakeOwn
set_option linter.unusedSimpArgs false
set_option linter.unusedVariables false
namespace Go.Proofs.Ytbidpeggdhkahaa
open Go.RowKit


/-- A row of three numbers an element: where it lies, its length, its room. -/
def triRd : Rd (Nat × Nat × Nat) := Rd.val (fun x => .slice (some ⟨x.1, 0, none⟩) x.2.1 x.2.2) (fun _ => rfl)
theorem flat_tri : Flat triRd := fun _ _ _ _ h => h
/-- The rows that have been made: their slice, where they lie. -/
structure Made (w : World) (base S : Nat) (v : Value) (gs : List Nat) : Prop where
  own : Own triRd 46 base w v (gs.map fun g => (g, S, S))
  blk : ∀ g ∈ gs, base ≤ g ∧ w.heap[g]? = some (zRow S)
  dis : gs.Nodup
/-- The struct that 'New' makes. -/
def TabCells (G : Gram) (W : ByteArray) (vn vr vl vN vP vA : Value) : Obj := .cells #[.int .i64 G.start, vn, vr, .string W, vl, vN, vP, vA] 86 (0, 0)

/-- Rows stay where nothing but p and a row of another type (or a new one) is written. -/
theorem Made.upd {w w' : World} {base S : Nat} {v : Value} {gs : List Nat} {R : Nat → Prop} (h : Made w base S v gs) (hu : Upd R w w') (hv : ∀ b, v.ownBlock = some b → ¬ R b) (hg : ∀ g ∈ gs, ¬ R g) : Made w' base S v gs :=
  ⟨h.own.flat_upd flat_tri hu hv, fun g hgm => ⟨(h.blk g hgm).1, (hu.block g (blk_lt (h.blk g hgm).2) (hg g hgm)).trans (h.blk g hgm).2⟩, h.dis⟩
theorem Made.below {w w' : World} {base S : Nat} {v : Value} {gs : List Nat} (h : Made w base S v gs) (hb : Below w.heap.size w w') : Made w' base S v gs :=
  h.upd (R := fun _ => False) (Upd.of_below hb) (fun _ _ h => h) (fun _ _ h => h)
theorem Made.lt {w : World} {base S : Nat} {v : Value} {gs : List Nat} (h : Made w base S v gs) : ∀ g ∈ gs, g < w.heap.size := fun g hg => blk_lt (h.blk g hg).2
theorem zRow_type {S : Nat} {cur : Array Value} {e : TypeId} (h : zRow S = .cells cur e (0, 0)) : e = 3 := by
  unfold zRow at h; injection h with h1 h2; exact h2.symm
/-- A row more: w is the world ahead of 'make', w1 behind the append, w2 behind the store into the struct. -/
theorem Made.more {w wa w1 : World} {base S : Nat} {v v1 : Value} {gs : List Nat} (h : Made w base S v gs) (hb : base ≤ w.heap.size) (o : Obj)
    (hwa : wa = ((w.drew.alloc (zRow S)).alloc o)) (ho : Own triRd 46 base w1 v1 (gs.map (fun g => (g, S, S)) ++ [(w.heap.size, S, S)])) (hg : wa.grownBy w1 v.ownBlock) :
    Made w1 base S v1 (gs ++ [w.heap.size]) := by
  have hn : ∀ g, g < wa.heap.size → wa.heap[g]? = some (zRow S) → some g ≠ v.ownBlock := by
    intro g hg1 hg2 e
    have hlt := (h.own.base e.symm).2
    obtain ⟨cur, hc⟩ := own_block_type h.own e.symm
    have h1 : Below w.heap.size w wa := by rw [hwa]; exact below_alloc' (below_alloc' (below_drew' (below_refl _)) _) _
    have hc' := blk_below hc h1
    rw [hc'] at hg2
    injection hg2 with hg2
    have := zRow_type hg2.symm
    cases this
  have h1 : Below w.heap.size w wa := by rw [hwa]; exact below_alloc' (below_alloc' (below_drew' (below_refl _)) _) _
  refine ⟨by rw [List.map_append]; exact ho, ?_, ?_⟩
  · intro g hgm
    rcases List.mem_append.1 hgm with hm | hm
    · have h2 := h.blk g hm
      have h3 := blk_below h2.2 h1
      exact ⟨h2.1, (hg.block g (blk_lt h3) (hn g (blk_lt h3) h3)).trans h3⟩
    · simp only [List.mem_singleton] at hm
      subst hm
      have h3 : wa.heap[w.heap.size]? = some (zRow S) := by
        rw [hwa]
        exact (Below.heap_alloc _ o _ (by simp)).trans (heap_alloc_new w.drew (zRow S))
      exact ⟨hb, (hg.block _ (blk_lt h3) (hn _ (blk_lt h3) h3)).trans h3⟩
  · rw [List.nodup_append]
    refine ⟨h.dis, by simp, fun a ha b hb2 e => ?_⟩
    simp only [List.mem_singleton] at hb2
    subst hb2
    subst e
    exact Nat.lt_irrefl _ (h.lt _ ha)
/-- The rows of 'at' that are ready. -/
structure Ats (w : World) (base : Nat) (G : Gram) (v : Value) (aa : List (Nat × Nat × Nat)) (gN gP : List Nat) : Prop where
  own : Own triRd 46 base w v aa
  at_ : ∀ (r : Nat) (a : Nat × Nat × Nat), aa[r]? = some a → base ≤ a.1 ∧ a.1 ∉ gN ∧ a.1 ∉ gP ∧ (∃ cur, w.heap[a.1]? = some (.cells cur 3 (0, 0))) ∧ (∃ x, G.rules[r]? = some x ∧ a.2.1 = x.conj.length) ∧
    ∀ c, c < a.2.1 → w.cell? ⟨a.1, c, none⟩ = some (.int .i64 (offG G r c))
theorem Ats.upd {w w' : World} {base : Nat} {G : Gram} {v : Value} {aa : List (Nat × Nat × Nat)} {gN gP : List Nat} {R : Nat → Prop} (h : Ats w base G v aa gN gP) (hu : Upd R w w') (hv : ∀ b, v.ownBlock = some b → ¬ R b) (hg : ∀ a ∈ aa, ¬ R a.1) : Ats w' base G v aa gN gP where
  own := h.own.flat_upd flat_tri hu hv
  at_ r a ha := by
    obtain ⟨h1, h2, h3, ⟨cur, h4⟩, h5, h6⟩ := h.at_ r a ha
    have hn := hg a (List.mem_of_getElem? ha)
    exact ⟨h1, h2, h3, ⟨cur, (hu.block _ (blk_lt h4) hn).trans h4⟩, h5, fun c hc => hu.cell (h6 c hc) hn⟩
theorem Ats.lt {w : World} {base : Nat} {G : Gram} {v : Value} {aa : List (Nat × Nat × Nat)} {gN gP : List Nat} (h : Ats w base G v aa gN gP) : ∀ a ∈ aa, a.1 < w.heap.size := by
  intro a ha
  obtain ⟨r, hr⟩ := List.getElem?_of_mem ha
  obtain ⟨_, _, _, ⟨cur, h4⟩, _, _⟩ := h.at_ r a hr
  exact blk_lt h4
theorem Ats.moreN {w : World} {base : Nat} {G : Gram} {v : Value} {aa : List (Nat × Nat × Nat)} {gN gP : List Nat} (h : Ats w base G v aa gN gP) {g : Nat} (hg : ∀ a ∈ aa, a.1 ≠ g) : Ats w base G v aa (gN ++ [g]) gP :=
  ⟨h.own, fun r a ha => by
    obtain ⟨h1, h2, h3, h4⟩ := h.at_ r a ha
    exact ⟨h1, by simp [h2, hg a (List.mem_of_getElem? ha)], h3, h4⟩⟩
theorem Ats.moreP {w : World} {base : Nat} {G : Gram} {v : Value} {aa : List (Nat × Nat × Nat)} {gN gP : List Nat} (h : Ats w base G v aa gN gP) {g : Nat} (hg : ∀ a ∈ aa, a.1 ≠ g) : Ats w base G v aa gN (gP ++ [g]) :=
  ⟨h.own, fun r a ha => by
    obtain ⟨h1, h2, h3, h4⟩ := h.at_ r a ha
    exact ⟨h1, h2, by simp [h3, hg a (List.mem_of_getElem? ha)], h4⟩⟩
/-- The struct while it is being made; w2: the world ahead of it. -/
structure TabRel (w2 : World) (G : Gram) (W : ByteArray) (vn vr vl : Value) (S : Nat) (gN gP : List Nat) (aa : List (Nat × Nat × Nat)) (vN vP vA : Value) (wr : World) : Prop where
  p : wr.heap[w2.heap.size]? = some (TabCells G W vn vr vl vN vP vA)
  N : Made wr (w2.heap.size + 1) S vN gN
  P : Made wr (w2.heap.size + 1) S vP gP
  NP : ∀ g ∈ gN, g ∉ gP
  A : Ats wr (w2.heap.size + 1) G vA aa gN gP
  vv : ∀ b, vN.ownBlock = some b → vP.ownBlock ≠ some b ∧ vA.ownBlock ≠ some b
  vw : ∀ b, vP.ownBlock = some b → vA.ownBlock ≠ some b
  B : Below w2.heap.size w2 wr
  sz : w2.heap.size + 1 ≤ wr.heap.size
theorem TabRel.below {w2 : World} {G : Gram} {W : ByteArray} {vn vr vl : Value} {S : Nat} {gN gP : List Nat} {aa : List (Nat × Nat × Nat)} {vN vP vA : Value} {wr wr' : World} (h : TabRel w2 G W vn vr vl S gN gP aa vN vP vA wr) (hb : Below wr.heap.size wr wr') :
    TabRel w2 G W vn vr vl S gN gP aa vN vP vA wr' where
  p := blk_below h.p hb
  N := h.N.below hb
  P := h.P.below hb
  NP := h.NP
  A := h.A.upd (R := fun _ => False) (Upd.of_below hb) (fun _ _ h => h) (fun _ _ h => h)
  vv := h.vv
  vw := h.vw
  B := h.B.trans (hb.mono (by have := h.sz; omega))
  sz := Nat.le_trans h.sz hb.size
/-- A row of ranks more, for a name. -/
theorem TabRel.moreN {w2 : World} {G : Gram} {W : ByteArray} {vn vr vl : Value} {S : Nat} {gN gP : List Nat} {aa : List (Nat × Nat × Nat)} {vN vP vA v1 : Value} {wr wa w1 : World} (h : TabRel w2 G W vn vr vl S gN gP aa vN vP vA wr) (o : Obj)
    (hwa : wa = ((wr.drew.alloc (zRow S)).alloc o)) (ho : Own triRd 46 (w2.heap.size + 1) w1 v1 (gN.map (fun g => (g, S, S)) ++ [(wr.heap.size, S, S)])) (hg : wa.grownBy w1 vN.ownBlock) (hat : v1.ownBlock = vN.ownBlock ∨ v1.ownBlock = some wa.heap.size) :
    TabRel w2 G W vn vr vl S (gN ++ [wr.heap.size]) gP aa v1 vP vA (w1.setCell ⟨w2.heap.size, 5, none⟩ v1) := by
  have hN := h.N.more h.sz o hwa ho hg
  have h1 : Below wr.heap.size wr wa := by rw [hwa]; exact below_alloc' (below_alloc' (below_drew' (below_refl _)) _) _
  have hr := h.below h1
  have hpne : ∀ b, vN.ownBlock = some b → b ≠ w2.heap.size := fun b hb => by have := (h.N.own.base hb).1; omega
  have hpn : some w2.heap.size ≠ vN.ownBlock := fun e => hpne _ e.symm rfl
  have hp1 := blk_grown hr.p hg hpn
  have hp : (w1.setCell ⟨w2.heap.size, 5, none⟩ v1).heap[w2.heap.size]? = some (TabCells G W vn vr vl v1 vP vA) := blk_set hp1 5 v1
  have hu : Upd (fun b => vN.ownBlock = some b ∨ b = w2.heap.size) wa (w1.setCell ⟨w2.heap.size, 5, none⟩ v1) := ((Upd.of_grown hg).mono (fun k hk => .inl hk)).setCell (p := ⟨w2.heap.size, 5, none⟩) (.inr rfl) v1
  have hrow : ∀ g, wa.heap[g]? = some (zRow S) → ¬ (vN.ownBlock = some g ∨ g = w2.heap.size) := by
    rintro g hg1 (e | e)
    · obtain ⟨cur, hc⟩ := own_block_type hr.N.own e
      exact blk_type_ne hc hg1 (by decide) rfl
    · subst e
      exact blk_type_ne hr.p hg1 (by decide) rfl
  refine ⟨hp, ?_, ?_, ?_, ?_, ?_, h.vw, ?_, ?_⟩
  · refine hN.upd (R := fun b => b = w2.heap.size) ((Upd.refl (fun b => b = w2.heap.size) w1).setCell (p := ⟨w2.heap.size, 5, none⟩) rfl v1) (fun b hb e => ?_) (fun g hgm e => ?_)
    · have := (hN.own.base hb).1; omega
    · have := (hN.blk g hgm).1; omega
  · refine hr.P.upd hu (fun b hb e => ?_) (fun g hgm => hrow g (hr.P.blk g hgm).2)
    rcases e with e | e
    · exact (h.vv b e).1 hb
    · have := (h.P.own.base hb).1; omega
  · intro g hgm hgp
    rcases List.mem_append.1 hgm with hm | hm
    · exact h.NP g hm hgp
    · simp only [List.mem_singleton] at hm; subst hm; exact Nat.lt_irrefl _ (h.P.lt _ hgp)
  · refine (hr.A.upd hu (fun b hb e => ?_) (fun a ha e => ?_)).moreN (fun a ha e => ?_)
    · rcases e with e | e
      · exact (h.vv b e).2 hb
      · have := (h.A.own.base hb).1; omega
    · obtain ⟨r, hr'⟩ := List.getElem?_of_mem ha
      obtain ⟨q1, _, _, ⟨cur', q4⟩, _⟩ := hr.A.at_ r a hr'
      rcases e with e | e
      · obtain ⟨cur, hc⟩ := own_block_type hr.N.own e
        exact blk_type_ne hc q4 (by decide) rfl
      · omega
    · have := h.A.lt a ha; omega
  · intro b hb
    rcases hat with e | e
    · rw [e] at hb; exact h.vv b hb
    · rw [e] at hb
      injection hb with hb
      refine ⟨fun e2 => ?_, fun e2 => ?_⟩
      · have := (hr.P.own.base e2).2; omega
      · have := (hr.A.own.base e2).2; omega
  · refine Below.setCell ?_ (by simp only; omega) _
    exact Below.grown hr.B hg (by have := hr.sz; omega) (fun k hk => by have := (h.N.own.base hk).1; omega)
  · have := hr.sz
    have := hg.size
    simp [World.setCell]
    omega
/-- A row of ranks more, for a place. -/
theorem TabRel.moreP {w2 : World} {G : Gram} {W : ByteArray} {vn vr vl : Value} {S : Nat} {gN gP : List Nat} {aa : List (Nat × Nat × Nat)} {vN vP vA v1 : Value} {wr wa w1 : World} (h : TabRel w2 G W vn vr vl S gN gP aa vN vP vA wr) (o : Obj)
    (hwa : wa = ((wr.drew.alloc (zRow S)).alloc o)) (ho : Own triRd 46 (w2.heap.size + 1) w1 v1 (gP.map (fun g => (g, S, S)) ++ [(wr.heap.size, S, S)])) (hg : wa.grownBy w1 vP.ownBlock) (hat : v1.ownBlock = vP.ownBlock ∨ v1.ownBlock = some wa.heap.size) :
    TabRel w2 G W vn vr vl S gN (gP ++ [wr.heap.size]) aa vN v1 vA (w1.setCell ⟨w2.heap.size, 6, none⟩ v1) := by
  have hP := h.P.more h.sz o hwa ho hg
  have h1 : Below wr.heap.size wr wa := by rw [hwa]; exact below_alloc' (below_alloc' (below_drew' (below_refl _)) _) _
  have hr := h.below h1
  have hpn : some w2.heap.size ≠ vP.ownBlock := fun e => by have := (h.P.own.base e.symm).1; omega
  have hp1 := blk_grown hr.p hg hpn
  have hp : (w1.setCell ⟨w2.heap.size, 6, none⟩ v1).heap[w2.heap.size]? = some (TabCells G W vn vr vl vN v1 vA) := blk_set hp1 6 v1
  have hu : Upd (fun b => vP.ownBlock = some b ∨ b = w2.heap.size) wa (w1.setCell ⟨w2.heap.size, 6, none⟩ v1) := ((Upd.of_grown hg).mono (fun k hk => .inl hk)).setCell (p := ⟨w2.heap.size, 6, none⟩) (.inr rfl) v1
  have hrow : ∀ g, wa.heap[g]? = some (zRow S) → ¬ (vP.ownBlock = some g ∨ g = w2.heap.size) := by
    rintro g hg1 (e | e)
    · obtain ⟨cur, hc⟩ := own_block_type hr.P.own e
      exact blk_type_ne hc hg1 (by decide) rfl
    · subst e
      exact blk_type_ne hr.p hg1 (by decide) rfl
  refine ⟨hp, ?_, ?_, ?_, ?_, ?_, ?_, ?_, ?_⟩
  · refine hr.N.upd hu (fun b hb e => ?_) (fun g hgm => hrow g (hr.N.blk g hgm).2)
    rcases e with e | e
    · exact (h.vv b hb).1 e
    · have := (h.N.own.base hb).1; omega
  · refine hP.upd (R := fun b => b = w2.heap.size) ((Upd.refl (fun b => b = w2.heap.size) w1).setCell (p := ⟨w2.heap.size, 6, none⟩) rfl v1) (fun b hb e => ?_) (fun g hgm e => ?_)
    · have := (hP.own.base hb).1; omega
    · have := (hP.blk g hgm).1; omega
  · intro g hgm hgp
    rcases List.mem_append.1 hgp with hm | hm
    · exact h.NP g hgm hm
    · simp only [List.mem_singleton] at hm; subst hm; exact Nat.lt_irrefl _ (h.N.lt _ hgm)
  · refine (hr.A.upd hu (fun b hb e => ?_) (fun a ha e => ?_)).moreP (fun a ha e => ?_)
    · rcases e with e | e
      · exact h.vw b e hb
      · have := (h.A.own.base hb).1; omega
    · obtain ⟨r, hr'⟩ := List.getElem?_of_mem ha
      obtain ⟨q1, _, _, ⟨cur', q4⟩, _⟩ := hr.A.at_ r a hr'
      rcases e with e | e
      · obtain ⟨cur, hc⟩ := own_block_type hr.P.own e
        exact blk_type_ne hc q4 (by decide) rfl
      · omega
    · have := h.A.lt a ha; omega
  · intro b hb
    refine ⟨fun e => ?_, (h.vv b hb).2⟩
    rcases hat with e2 | e2
    · rw [e2] at e; exact (h.vv b hb).1 e
    · rw [e2] at e
      injection e with e
      have := (hr.N.own.base hb).2; omega
  · intro b hb
    rcases hat with e | e
    · rw [e] at hb; exact h.vw b hb
    · rw [e] at hb
      injection hb with hb
      intro e2
      have := (hr.A.own.base e2).2; omega
  · refine Below.setCell ?_ (by simp only; omega) _
    exact Below.grown hr.B hg (by have := hr.sz; omega) (fun k hk => by have := (h.P.own.base hk).1; omega)
  · have := hr.sz
    have := hg.size
    simp [World.setCell]
    omega
/-- A row of 'at' more. -/
theorem TabRel.moreA {w2 : World} {G : Gram} {W : ByteArray} {vn vr vl : Value} {S : Nat} {gN gP : List Nat} {aa : List (Nat × Nat × Nat)} {vN vP vA v1 : Value} {wr wa w1 : World} {a : Nat × Nat × Nat} (h : TabRel w2 G W vn vr vl S gN gP aa vN vP vA wr) (o : Obj)
    (ha : w2.heap.size + 1 ≤ a.1 ∧ a.1 ∉ gN ∧ a.1 ∉ gP ∧ (∃ cur, wr.heap[a.1]? = some (.cells cur 3 (0, 0))) ∧ (∃ x, G.rules[aa.length]? = some x ∧ a.2.1 = x.conj.length) ∧ ∀ c, c < a.2.1 → wr.cell? ⟨a.1, c, none⟩ = some (.int .i64 (offG G aa.length c)))
    (hwa : wa = wr.alloc o) (ho : Own triRd 46 (w2.heap.size + 1) w1 v1 (aa ++ [a])) (hg : wa.grownBy w1 vA.ownBlock) (hat : v1.ownBlock = vA.ownBlock ∨ v1.ownBlock = some wa.heap.size) :
    TabRel w2 G W vn vr vl S gN gP (aa ++ [a]) vN vP v1 (w1.setCell ⟨w2.heap.size, 7, none⟩ v1) := by
  have h1 : Below wr.heap.size wr wa := by rw [hwa]; exact below_alloc' (below_refl _) _
  have hr := h.below h1
  have hpn : some w2.heap.size ≠ vA.ownBlock := fun e => by have := (h.A.own.base e.symm).1; omega
  have hp1 := blk_grown hr.p hg hpn
  have hp : (w1.setCell ⟨w2.heap.size, 7, none⟩ v1).heap[w2.heap.size]? = some (TabCells G W vn vr vl vN vP v1) := blk_set hp1 7 v1
  have hu : Upd (fun b => vA.ownBlock = some b ∨ b = w2.heap.size) wa (w1.setCell ⟨w2.heap.size, 7, none⟩ v1) := ((Upd.of_grown hg).mono (fun k hk => .inl hk)).setCell (p := ⟨w2.heap.size, 7, none⟩) (.inr rfl) v1
  have hrow : ∀ g cur, wa.heap[g]? = some (.cells cur 3 (0, 0)) → ¬ (vA.ownBlock = some g ∨ g = w2.heap.size) := by
    rintro g cur' hg1 (e | e)
    · obtain ⟨cur, hc⟩ := own_block_type hr.A.own e
      exact blk_type_ne hc hg1 (by decide) rfl
    · subst e
      exact blk_type_ne hr.p hg1 (by decide) rfl
  refine ⟨hp, ?_, ?_, h.NP, ?_, ?_, ?_, ?_, ?_⟩
  · refine hr.N.upd hu (fun b hb e => ?_) (fun g hgm => hrow g _ (hr.N.blk g hgm).2)
    rcases e with e | e
    · exact (h.vv b hb).2 e
    · have := (h.N.own.base hb).1; omega
  · refine hr.P.upd hu (fun b hb e => ?_) (fun g hgm => hrow g _ (hr.P.blk g hgm).2)
    rcases e with e | e
    · exact h.vw b hb e
    · have := (h.P.own.base hb).1; omega
  · refine ⟨ho.flat_upd flat_tri ((Upd.refl (fun b => b = w2.heap.size) w1).setCell (p := ⟨w2.heap.size, 7, none⟩) rfl v1) (fun b hb e => by have := (ho.base hb).1; omega), fun r q hq => ?_⟩
    by_cases hlt : r < aa.length
    · rw [List.getElem?_append_left hlt] at hq
      obtain ⟨q1, q2, q3, ⟨cur, q4⟩, q5, q6⟩ := hr.A.at_ r q hq
      have hn := hrow q.1 cur q4
      exact ⟨q1, q2, q3, ⟨cur, (hu.block _ (blk_lt q4) hn).trans q4⟩, q5, fun c hc => hu.cell (q6 c hc) hn⟩
    · rw [List.getElem?_append_right (by omega)] at hq
      have hr0 : r - aa.length = 0 := by
        rcases Nat.eq_zero_or_pos (r - aa.length) with h | h
        · exact h
        · rw [List.getElem?_eq_none (by simp; omega)] at hq; cases hq
      rw [hr0] at hq
      simp only [List.getElem?_cons_zero, Option.some.injEq] at hq
      subst hq
      have hre : r = aa.length := by omega
      subst hre
      obtain ⟨q1, q2, q3, ⟨cur, q4⟩, q5, q6⟩ := ha
      have q4' := blk_below q4 h1
      have hn := hrow a.1 cur q4'
      exact ⟨q1, q2, q3, ⟨cur, (hu.block _ (blk_lt q4') hn).trans q4'⟩, q5, fun c hc => hu.cell (below_cell h1 (q6 c hc)) hn⟩
  · intro b hb
    refine ⟨(h.vv b hb).1, fun e => ?_⟩
    rcases hat with e2 | e2
    · rw [e2] at e; exact (h.vv b hb).2 e
    · rw [e2] at e
      injection e with e
      have := (hr.N.own.base hb).2; omega
  · intro b hb e
    rcases hat with e2 | e2
    · rw [e2] at e; exact h.vw b hb e
    · rw [e2] at e
      injection e with e
      have := (hr.P.own.base hb).2; omega
  · refine Below.setCell ?_ (by simp only; omega) _
    exact Below.grown hr.B hg (by have := hr.sz; omega) (fun k hk => by have := (h.A.own.base hk).1; omega)
  · have := hr.sz
    have := hg.size
    simp [World.setCell]
    omega
theorem TabRel.upd {w2 : World} {G : Gram} {W : ByteArray} {vn vr vl : Value} {S : Nat} {gN gP : List Nat} {aa : List (Nat × Nat × Nat)} {vN vP vA : Value} {wr w' : World} {R : Nat → Prop} (h : TabRel w2 G W vn vr vl S gN gP aa vN vP vA wr) (hu : Upd R wr w')
    (hR : ∀ b, R b → w2.heap.size < b ∧ vN.ownBlock ≠ some b ∧ vP.ownBlock ≠ some b ∧ vA.ownBlock ≠ some b ∧ b ∉ gN ∧ b ∉ gP ∧ ∀ a ∈ aa, a.1 ≠ b) : TabRel w2 G W vn vr vl S gN gP aa vN vP vA w' where
  p := (hu.block _ (blk_lt h.p) (fun x => Nat.lt_irrefl _ (hR _ x).1)).trans h.p
  N := h.N.upd hu (fun b hb x => (hR b x).2.1 hb) (fun g hg x => (hR g x).2.2.2.2.1 hg)
  P := h.P.upd hu (fun b hb x => (hR b x).2.2.1 hb) (fun g hg x => (hR g x).2.2.2.2.2.1 hg)
  NP := h.NP
  A := h.A.upd hu (fun b hb x => (hR b x).2.2.2.1 hb) (fun a ha x => (hR _ x).2.2.2.2.2.2 a ha rfl)
  vv := h.vv
  vw := h.vw
  B := h.B.trans ((hu.below (by have := h.sz; omega) (fun k hk => Nat.le_of_lt (hR k hk).1)))
  sz := Nat.le_trans h.sz hu.size
/-- The row of 'at' that is being made. -/
structure AtL (w : World) (base : Nat) (v : Value) (os : List Int) (gN gP : List Nat) (aa : List (Nat × Nat × Nat)) : Prop where
  own : Own Rd.int 3 base w v os
  nN : ∀ b, v.ownBlock = some b → b ∉ gN ∧ b ∉ gP ∧ ∀ a ∈ aa, a.1 ≠ b
theorem AtL.below {w w' : World} {base : Nat} {v : Value} {os : List Int} {gN gP : List Nat} {aa : List (Nat × Nat × Nat)} (h : AtL w base v os gN gP aa) (hb : Below w.heap.size w w') : AtL w' base v os gN gP aa := ⟨h.own.below hb, h.nN⟩
/-- 'at' grows. -/
theorem TabRel.atMore {w2 : World} {G : Gram} {W : ByteArray} {vn vr vl : Value} {S : Nat} {gN gP : List Nat} {aa : List (Nat × Nat × Nat)} {vN vP vA vat v1 : Value} {wr w1 : World} {base : Nat} {os : List Int} {o : Obj} {z : Int} (h : TabRel w2 G W vn vr vl S gN gP aa vN vP vA wr)
    (ha : AtL wr base vat os gN gP aa) (hb : w2.heap.size < base) (ho : Own Rd.int 3 base w1 v1 (os ++ [z])) (hg : (wr.alloc o).grownBy w1 vat.ownBlock) (hat : v1.ownBlock = vat.ownBlock ∨ v1.ownBlock = some (wr.alloc o).heap.size) :
    TabRel w2 G W vn vr vl S gN gP aa vN vP vA w1 ∧ AtL w1 base v1 (os ++ [z]) gN gP aa := by
  have h1 := below_alloc' (below_refl wr) o
  have hr := h.below h1
  have hl := ha.below h1
  refine ⟨hr.upd (Upd.of_grown hg) (fun b hbb => ?_), ho, fun b hbb => ?_⟩
  · have h2 := hl.nN b hbb
    have h3 := (hl.own.base hbb).1
    exact ⟨by omega, own_type_ne hl.own hr.N.own (by decide) hbb, own_type_ne hl.own hr.P.own (by decide) hbb, own_type_ne hl.own hr.A.own (by decide) hbb, h2.1, h2.2.1, h2.2.2⟩
  · rcases hat with e | e
    · rw [e] at hbb; exact hl.nN b hbb
    · rw [e] at hbb
      injection hbb with hbb
      refine ⟨fun x => ?_, fun x => ?_, fun a x e2 => ?_⟩
      · have := hr.N.lt b x; omega
      · have := hr.P.lt b x; omega
      · have := hr.A.lt a x; omega
/-- 'at' stays while a row for a place is made. -/
theorem AtL.moreP {w2 : World} {G : Gram} {W : ByteArray} {vn vr vl : Value} {S : Nat} {gN gP : List Nat} {aa : List (Nat × Nat × Nat)} {vN vP vA vat v1 : Value} {wr wa w1 : World} {base : Nat} {os : List Int} (h : TabRel w2 G W vn vr vl S gN gP aa vN vP vA wr)
    (ha : AtL wr base vat os gN gP aa) (o : Obj) (hwa : wa = ((wr.drew.alloc (zRow S)).alloc o)) (hg : wa.grownBy w1 vP.ownBlock) : AtL (w1.setCell ⟨w2.heap.size, 6, none⟩ v1) base vat os gN (gP ++ [wr.heap.size]) aa := by
  have h1 : Below wr.heap.size wr wa := by rw [hwa]; exact below_alloc' (below_alloc' (below_drew' (below_refl _)) _) _
  have hr := h.below h1
  have hl := ha.below h1
  have hu : Upd (fun b => vP.ownBlock = some b ∨ b = w2.heap.size) wa (w1.setCell ⟨w2.heap.size, 6, none⟩ v1) := ((Upd.of_grown hg).mono (fun k hk => .inl hk)).setCell (p := ⟨w2.heap.size, 6, none⟩) (.inr rfl) v1
  refine ⟨hl.own.flat_upd flat_int hu (fun b hb e => ?_), fun b hb => ?_⟩
  · rcases e with e | e
    · exact own_type_ne hl.own hr.P.own (by decide) hb e
    · subst e
      obtain ⟨cur, hc⟩ := own_block_type hl.own hb
      exact blk_type_ne hr.p hc (by decide) rfl
  · have h2 := ha.nN b hb
    refine ⟨h2.1, fun x => ?_, h2.2.2⟩
    rcases List.mem_append.1 x with x | x
    · exact h2.2.1 x
    · simp only [List.mem_singleton] at x
      have := (ha.own.base hb).2
      omega
end Go.Proofs.Ytbidpeggdhkahaa

set_option linter.unusedSimpArgs false
set_option linter.unusedVariables false
namespace Go.Proofs.Ytbidpeggdhkahaa
open Go.RowKit



theorem zRow_cell {w : World} {g S i : Nat} (h : w.heap[g]? = some (zRow S)) (hi : i < S) : w.cell? ⟨g, i, none⟩ = some (.int .i64 0) ∧ w.frozen? ⟨g, i, none⟩ = false := by
  refine ⟨?_, blk_frozen h i⟩
  rw [blk_cell h i]
  rw [← Array.getElem?_toList, toList_madeCells_one]
  simp [hi]

/-- It lies still whatever is written into the rows, or into blocks below lo. -/
def StatL (lo : Nat) (w : World) (t : TS) : Prop := ∀ w', Upd (fun b => t.R b ∨ b < lo) w w' → Static w' t
theorem StatL.stat {lo : Nat} {w : World} {t : TS} (h : StatL lo w t) : Stat w t := fun w' hu => h w' (hu.mono (fun _ h => .inl h))
theorem StatL.upd {lo : Nat} {w w' : World} {t : TS} (h : StatL lo w t) (u : Upd t.R w w') : StatL lo w' t := fun _ u' => h _ ((u.mono (fun _ h => .inl h)).trans u')
theorem StatL.below {lo : Nat} {w w' : World} {t : TS} (h : StatL lo w t) (u : Below w.heap.size w w') : StatL lo w' t := fun _ u' => h _ ((Upd.of_below u).trans u')
theorem StatL.far {lo : Nat} {w w' : World} {t : TS} (h : StatL lo w t) (u : Upd (fun b => b < lo) w w') : StatL lo w' t := fun _ u' => h _ ((u.mono (fun _ h => .inr h)).trans u')
set_option maxHeartbeats 1000000 in
theorem new_table {w2 wr : World} {G : Gram} {W : ByteArray} {An Ar AL : Option Addr} {cn cr cp S : Nat} {gN gP : List Nat} {aa : List (Nat × Nat × Nat)} {vN vP vA : Value} {lev : List Int}
    (T : TabRel w2 G W (.slice An G.names.length cn) (.slice Ar G.rules.length cr) (.slice AL lev.length cp) S gN gP aa vN vP vA wr) {lo : Nat} (hlo : lo ≤ w2.heap.size) (hr : ∀ w', Upd (fun b => b < lo) w2 w' → rulRd.C w' Ar G.rules) (hl : ∀ w', Upd (fun b => b < lo) w2 w' → Rd.int.C w' AL lev) (F : GFits G lev) (hW : W.size ≤ 32) (hS : S = (W.size + 1) * (W.size + 1))
    (hN : gN.length = G.names.length) (hP : gP.length = qG G) (hA : aa.length = G.rules.length) :
    ∃ t : TS, t.p = w2.heap.size ∧ t.lev = lev ∧ t.G = G ∧ t.W = W ∧ t.off = offG G ∧ t.Fits ∧ StatL lo wr t ∧ Rows wr t (fun _ _ _ => 0) (fun _ _ _ => 0) ∧ ∀ b, t.R b → w2.heap.size ≤ b := by
  have hQ1 : 1 ≤ qG G := by
    obtain ⟨x, hx⟩ : ∃ x, G.rules[0]? = some x := ⟨_, List.getElem?_eq_getElem (by have := F.rules1; omega)⟩
    obtain ⟨y, hy⟩ : ∃ y, x.conj[0]? = some y := ⟨_, List.getElem?_eq_getElem (by have := (F.conj 0 _ hx).1; omega)⟩
    have := q_lt hx hy
    omega
  obtain ⟨nb, xN, rfl, hnb, hnc, -, -⟩ := T.N.own.form (by rw [List.length_map, hN]; have := F.K1; omega)
  obtain ⟨pb, xP, rfl, hpb, hpc, -, -⟩ := T.P.own.form (by rw [List.length_map, hP]; omega)
  obtain ⟨ab, xA, rfl, hab, hac, -, -⟩ := T.A.own.form (by rw [hA]; have := F.rules1; omega)
  obtain ⟨ca, sa, hRA, -⟩ := RulesAt.far hr
  have hgn : ∀ h, h < G.names.length → gN[h]? = some (gN.getD h 0) := fun h hh => by rw [List.getElem?_eq_getElem (by omega), List.getD_eq_getElem?_getD, List.getElem?_eq_getElem (by omega)]; rfl
  have hgp : ∀ q, q < qG G → gP[q]? = some (gP.getD q 0) := fun h hh => by rw [List.getElem?_eq_getElem (by omega), List.getD_eq_getElem?_getD, List.getElem?_eq_getElem (by omega)]; rfl
  have hga : ∀ r, r < G.rules.length → aa[r]? = some (aa.getD r (0, 0, 0)) := fun h hh => by rw [List.getElem?_eq_getElem (by omega), List.getD_eq_getElem?_getD, List.getElem?_eq_getElem (by omega)]; rfl
  refine ⟨⟨w2.heap.size, W, G, lev, Ar, ca, sa, nb, pb, ab, fun h => gN.getD h 0, fun q => gP.getD q 0, fun r => (aa.getD r (0, 0, 0)).1, offG G, qG G, AL, cp, xN, xP, xA, fun _ => S, fun _ => S, fun r => (aa.getD r (0, 0, 0)).2.2⟩, rfl, rfl, rfl, rfl, rfl, ?_, ?_, ?_, ?_⟩
  · refine ⟨hW, F.K64, F.rules, F.conj, F.seq, F.sym, F.head, F.lev, ?_, F.Q, ?_, ?_, ?_⟩
    · intro r x c y hx hy
      have hql : rSum G.rules r + cSum x.conj c + (y.seq.length + 1) ≤ qG G := q_lt (G := G) hx hy
      show offG G r c + y.seq.length < qG G
      simp only [offG]
      rw [show G.rules[r]? = some x from hx]
      simp only
      omega
    · intro h h' hh hh' e
      have e1 := hgn h hh
      have e2 := hgn h' hh'
      simp only at e
      rw [e] at e1
      exact (List.getElem?_inj (show h < gN.length by rw [hN]; exact hh) T.N.dis).1 (e1.trans e2.symm)
    · intro h h' hh hh' e
      have e1 := hgp h hh
      have e2 := hgp h' hh'
      simp only at e
      rw [e] at e1
      exact (List.getElem?_inj (show h < gP.length by rw [hP]; exact hh) T.P.dis).1 (e1.trans e2.symm)
    · intro h q hh hq e
      simp only at e
      have h1 := T.NP _ (List.mem_of_getElem? (hgn h hh))
      rw [e] at h1
      exact h1 (List.mem_of_getElem? (hgp q hq))
  · intro w' hu
    have hRR : ∀ b, ((∃ h, h < G.names.length ∧ b = gN.getD h 0) ∨ (∃ q, q < qG G ∧ b = gP.getD q 0)) → b ∈ gN ∨ b ∈ gP := by
      rintro b (⟨h, hh, rfl⟩ | ⟨q, hq, rfl⟩)
      · exact .inl (List.mem_of_getElem? (hgn h hh))
      · exact .inr (List.mem_of_getElem? (hgp q hq))
    have hlo2 : ∀ b, b ∈ gN ∨ b ∈ gP → w2.heap.size + 1 ≤ b ∧ wr.heap[b]? = some (zRow S) := by
      rintro b (hb | hb)
      · exact T.N.blk b hb
      · exact T.P.blk b hb
    have hR0 : ∀ b, (((∃ h, h < G.names.length ∧ b = gN.getD h 0) ∨ (∃ q, q < qG G ∧ b = gP.getD q 0)) ∨ b < lo) → w2.heap.size + 1 ≤ b ∨ b < lo := fun b hb => hb.elim (fun x => .inl (hlo2 _ (hRR _ x)).1) .inr
    have hp : w'.heap[w2.heap.size]? = some (TabCells G W (.slice An G.names.length cn) (.slice Ar G.rules.length cr) (.slice AL lev.length cp) (.slice (some ⟨nb, 0, none⟩) (gN.map fun g => (g, S, S)).length xN) (.slice (some ⟨pb, 0, none⟩) (gP.map fun g => (g, S, S)).length xP) (.slice (some ⟨ab, 0, none⟩) aa.length xA)) :=
      (hu.block _ (blk_lt T.p) (fun x => by have := hR0 _ x; omega)).trans T.p
    have hbel : Upd (fun b => b < lo) w2 w' := ⟨hu.os.trans T.B.os, hu.tape.trans T.B.tape, hu.output.trans T.B.output, Nat.le_trans T.B.size hu.size, fun k hk hn => (hu.block k (Nat.lt_of_lt_of_le hk T.B.size) (fun x => by have := hR0 _ x; omega)).trans (T.B.block k hk)⟩
    have hno : ∀ b cur e, wr.heap[b]? = some (.cells cur e (0, 0)) → e ≠ 3 → lo ≤ b → ¬ (((∃ h, h < G.names.length ∧ b = gN.getD h 0) ∨ (∃ q, q < qG G ∧ b = gP.getD q 0)) ∨ b < lo) := by
      intro b cur e hb hne hlb x
      have x := x.resolve_right (Nat.not_lt.2 hlb)
      have h2 := (hlo2 _ (hRR _ x)).2
      rw [hb] at h2
      injection h2 with h2
      exact hne (zRow_type h2.symm)
    have hsl : (46 : TypeId) ≠ 3 := by decide
    obtain ⟨cu1, hnc⟩ := hnc
    obtain ⟨cu2, hpc⟩ := hpc
    obtain ⟨cu3, hac⟩ := hac
    refine ⟨blk_cell hp 3, ⟨An, cn, blk_cell hp 1⟩, ⟨cr, blk_cell hp 2⟩, hRA w' hbel, blk_cell hp 4, hl w' hbel, ?_, ?_, ?_, ?_, ?_, ?_, ?_⟩
    · have := blk_cell hp 5
      rw [List.length_map, hN] at this
      exact this
    · intro h hh
      refine hu.cell ?_ (hno nb cu1 _ hnc hsl (by omega))
      have h1 : (gN.map fun g => (g, S, S))[h]? = some (gN.getD h 0, S, S) := by rw [List.getElem?_map, hgn h hh]; rfl
      have h2 := Own.one_at (enc := fun x : Nat × Nat × Nat => .slice (some ⟨x.1, 0, none⟩) x.2.1 x.2.2) T.N.own h1
      rw [h2]
      simp only [TS.S, hS]
    · have := blk_cell hp 6
      simp only [List.length_map, hP] at this
      exact this
    · intro h hh
      refine hu.cell ?_ (hno pb cu2 _ hpc hsl (by omega))
      have h1 : (gP.map fun g => (g, S, S))[h]? = some (gP.getD h 0, S, S) := by rw [List.getElem?_map, hgp h hh]; rfl
      have h2 := Own.one_at (enc := fun x : Nat × Nat × Nat => .slice (some ⟨x.1, 0, none⟩) x.2.1 x.2.2) T.P.own h1
      rw [h2]
      simp only [TS.S, hS]
    · have := blk_cell hp 7
      rw [hA] at this
      exact this
    · intro r x hx
      have hr1 : r < G.rules.length := (List.getElem?_eq_some_iff.1 hx).1
      refine hu.cell ?_ (hno ab cu3 _ hac hsl (by omega))
      have h2 := Own.one_at (enc := fun x : Nat × Nat × Nat => .slice (some ⟨x.1, 0, none⟩) x.2.1 x.2.2) T.A.own (hga r hr1)
      obtain ⟨x', hx', hl'⟩ := (T.A.at_ r _ (hga r hr1)).2.2.2.2.1
      rw [show G.rules[r]? = some x from hx] at hx'
      injection hx' with hx'
      subst hx'
      rw [h2, hl']
    · intro r x c y hx hy
      have hr1 : r < G.rules.length := (List.getElem?_eq_some_iff.1 hx).1
      have hc1 : c < x.conj.length := (List.getElem?_eq_some_iff.1 hy).1
      obtain ⟨q1, q2, q3, q4, ⟨x', hx', hl'⟩, q6⟩ := T.A.at_ r _ (hga r hr1)
      rw [show G.rules[r]? = some x from hx] at hx'
      injection hx' with hx'
      subst hx'
      refine hu.cell (q6 c (by omega)) (fun z => ?_)
      have z := z.resolve_right (fun z2 : (aa.getD r (0, 0, 0)).1 < lo => by omega)
      rcases hRR _ z with z | z
      · exact q2 z
      · exact q3 z
  · constructor
    · intro h i j hh h0 h1 h2 h3
      have hk := key_bd ⟨w2.heap.size, W, G, lev, Ar, ca, sa, nb, pb, ab, fun h => gN.getD h 0, fun q => gP.getD q 0, fun r => (aa.getD r (0, 0, 0)).1, offG G, qG G, AL, cp, xN, xP, xA, fun _ => S, fun _ => S, fun r => (aa.getD r (0, 0, 0)).2.2⟩ h0 h1 h2 h3
      exact zRow_cell (T.N.blk _ (List.mem_of_getElem? (hgn h hh))).2 (by have := hk.2; simp only [TS.S] at this; rw [← hS] at this; omega)
    · intro h i j hh h0 h1 h2 h3
      have hk := key_bd ⟨w2.heap.size, W, G, lev, Ar, ca, sa, nb, pb, ab, fun h => gN.getD h 0, fun q => gP.getD q 0, fun r => (aa.getD r (0, 0, 0)).1, offG G, qG G, AL, cp, xN, xP, xA, fun _ => S, fun _ => S, fun r => (aa.getD r (0, 0, 0)).2.2⟩ h0 h1 h2 h3
      exact zRow_cell (T.P.blk _ (List.mem_of_getElem? (hgp h hh))).2 (by have := hk.2; simp only [TS.S] at this; rw [← hS] at this; omega)
  · rintro b (⟨h, hh, rfl⟩ | ⟨q, hq, rfl⟩)
    · have := (T.N.blk _ (List.mem_of_getElem? (hgn h hh))).1
      simp only; omega
    · have := (T.P.blk _ (List.mem_of_getElem? (hgp q hq))).1
      simp only; omega
end Go.Proofs.Ytbidpeggdhkahaa
