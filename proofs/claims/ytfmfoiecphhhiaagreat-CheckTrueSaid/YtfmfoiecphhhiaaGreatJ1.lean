/-
  J1: a proof that is taken says the truth at each of its nodes. No program in sight.
-/
import Derived.Test.YtfmfoiecphhhiaaGreatN2
import Derived.Test.YtfmfoiecphhhiaaGreatH8b
set_option linter.unusedSimpArgs false
set_option linter.unusedVariables false
namespace Go.Proofs.YtfmfoiecphhhiaaGreat
open Go.RowKit

/-- The true rank of what a node is about. -/
def KyIn (G : Gram) (T : Rk × Rk) (k : Ky) : Int := if k.kind = 0 then T.1 k.name.toNat k.i k.j else T.2 (offG G k.plc.rule.toNat k.plc.conj.toNat + k.plc.pos.toNat) k.i k.j
def cjLv (y : Conj) : Int := if y.neg then 0 else 1
/-- The level of what a node is about. -/
def kyLv (G : Gram) (lev : List Int) (k : Ky) : Int := if k.kind = 0 then 2 * lev.getD k.name.toNat 0 + 1 else match G.rules[k.plc.rule.toNat]? with
  | none => 0
  | some x => match x.conj[k.plc.conj.toNat]? with
    | none => 0
    | some y => 2 * lvG lev x + cjLv y
theorem kyIn_seq (G : Gram) (T : Rk × Rk) (r c q : Nat) (i j : Int) : KyIn G T (seqKey ⟨(r : Int), (c : Int), (q : Int)⟩ i j) = T.2 (offG G r c + q) i j := by
  unfold KyIn seqKey
  simp
theorem kyIn_seq0 (G : Gram) (T : Rk × Rk) (r c : Nat) (i j : Int) : KyIn G T (seqKey ⟨(r : Int), (c : Int), 0⟩ i j) = T.2 (offG G r c) i j := by
  unfold KyIn seqKey
  simp
theorem kyIn_name (G : Gram) (T : Rk × Rk) (n i j : Int) : KyIn G T (nameKey n i j) = T.1 n.toNat i j := by
  unfold KyIn nameKey
  simp
theorem kyLv_seq {G : Gram} {lev : List Int} {r c : Nat} {x : Rul} {y : Conj} (hx : G.rules[r]? = some x) (hy : x.conj[c]? = some y) (q i j : Int) : kyLv G lev (seqKey ⟨(r : Int), (c : Int), q⟩ i j) = 2 * lvG lev x + cjLv y := by
  unfold kyLv seqKey
  simp [hx, hy]
theorem kyLv_name (G : Gram) (lev : List Int) (n i j : Int) : kyLv G lev (nameKey n i j) = 2 * lev.getD n.toNat 0 + 1 := by
  unfold kyLv nameKey
  simp
theorem isB_node {C : Crt} {kid : Int} {sg : Bool} {k : Ky} (h : isB C kid sg k = true) : ∃ y, ndAt C kid = some y ∧ y ∈ C.nodes ∧ y.sign = sg ∧ y.ky = k := by
  unfold isB at h
  cases hn : ndAt C kid with
  | none => rw [hn] at h; cases h
  | some y =>
    rw [hn] at h
    simp only [Bool.and_eq_true, beq_iff_eq, decide_eq_true_eq] at h
    obtain ⟨n, -, -, hy⟩ := ndAt_some hn
    exact ⟨y, rfl, List.mem_of_getElem? hy, h.1, h.2⟩
theorem lesser_rank {C : Crt} {p : Pck} {rank : Int} (h : lesserB C p rank = true) {k : Int} (hk : k ∈ p.kids) {y : Nod} (hy : ndAt C k = some y) (hs : y.sign = true) : y.rank < rank := by
  unfold lesserB at h
  have := List.all_eq_true.1 h k hk
  unfold lessK at this
  simp only [hy, hs] at this
  simpa using this
theorem ranked_pick {C : Crt} {x : Nod} (h : rankedB C x = true) (hp : x.picks ≠ []) : ∃ p ∈ x.picks, lesserB C p x.rank = true := by
  unfold rankedB at h
  simp only [Bool.and_eq_true, Bool.or_eq_true, List.any_eq_true, List.isEmpty_iff] at h
  rcases h.2 with h | h
  · exact absurd h hp
  · exact h
theorem rising_ne {ps : List Pck} (h : risingB ps = true) : ps ≠ [] := by
  rintro rfl
  simp [risingB] at h
structure NodeOK (C : Crt) (G : Gram) (W : ByteArray) (x : Nod) : Prop where
  i0 : 0 ≤ x.i
  ij : x.i ≤ x.j
  j1 : x.j ≤ W.size
theorem nodeB_span {C : Crt} {G : Gram} {W : ByteArray} {x : Nod} (h : nodeB C G W x = true) : NodeOK C G W x := by
  unfold nodeB shapeB at h
  simp only [Bool.and_eq_true, decide_eq_true_eq] at h
  exact ⟨h.1.1.1.1, h.1.1.1.2, h.1.1.2⟩
/-- A node about a name. -/
theorem nodeB_name {C : Crt} {G : Gram} {W : ByteArray} {x : Nod} (h : nodeB C G W x = true) (hk : x.kind = 0) : x.ky = nameKey x.name x.i x.j ∧ 0 ≤ x.name ∧ x.name < G.names.length ∧ (if x.sign then hasOK C G x else lacksB C G x) = true := by
  unfold nodeB shapeB at h
  rw [if_pos hk, if_pos hk] at h
  simp only [Bool.and_eq_true, decide_eq_true_eq] at h
  obtain ⟨⟨-, ⟨h1, h2⟩, h3⟩, h4⟩ := h
  exact ⟨by unfold Nod.ky nameKey; rw [hk, h3], h1, h2, h4⟩
/-- A node about a rest. -/
theorem nodeB_rest {C : Crt} {G : Gram} {W : ByteArray} {x : Nod} (h : nodeB C G W x = true) (hk : x.kind ≠ 0) : ∃ (r c q : Nat) (y : Rul) (z : Conj), x.plc = ⟨(r : Int), (c : Int), (q : Int)⟩ ∧ PlG G r c q y z ∧ x.ky = seqKey ⟨(r : Int), (c : Int), (q : Int)⟩ x.i x.j ∧ symOf G x.plc = z.seq[q]? ∧ behind x = ⟨(r : Int), (c : Int), ((q + 1 : Nat) : Int)⟩ ∧ (if x.sign then goesB C G W x else stopsB C G W x) = true := by
  unfold nodeB shapeB at h
  rw [if_neg hk, if_neg hk] at h
  simp only [Bool.and_eq_true, decide_eq_true_eq] at h
  obtain ⟨⟨-, ⟨h1, h2⟩, h3⟩, h4⟩ := h
  obtain ⟨r, c, q, y, z, hp, hy, hz, hq⟩ := plcB_of h3
  refine ⟨r, c, q, y, z, hp, ⟨hy, hz, hq⟩, by unfold Nod.ky seqKey; rw [h1, h2, hp], by rw [hp]; exact symOf_eq hy hz, by unfold behind; rw [hp]; push_cast; rfl, h4⟩
theorem cjLv_bd (y : Conj) : 0 ≤ cjLv y ∧ cjLv y ≤ 1 := by unfold cjLv; split <;> omega
section
variable {G : Gram} {W : ByteArray} {T : Rk × Rk} {lev : List Int} {C : Crt}
/-- Names are of no higher level than the rest that they stand in. -/
theorem name_level (M : MayG G) (hg : ∀ e ∈ edgesOf G, lev.getD e.to 0 + negI e.neg ≤ lev.getD e.fr 0) {r c q : Nat} {y : Rul} {z : Conj} (p : PlG G r c q y z) {s : Sym} (hs : z.seq[q]? = some s) (hn : 0 ≤ s.name) (i j : Int) : kyLv G lev (nameKey s.name i j) ≤ 2 * lvG lev y + cjLv z := by
  rw [kyLv_name]
  have he := hg ⟨y.head.toNat, s.name.toNat, z.neg⟩ (mem_edgesOf.2 ⟨y, List.mem_of_getElem? p.hx, z, List.mem_of_getElem? p.hy, s, List.mem_of_getElem? hs, hn, rfl⟩)
  try simp only at he
  unfold lvG cjLv
  unfold negI at he
  cases hz : z.neg <;> rw [hz] at he <;> simp at he ⊢ <;> omega
/-- What is said to be in is in. -/
theorem plus_true (H : Truth G W T) (M : MayG G) (hg : ∀ e ∈ edgesOf G, lev.getD e.to 0 + negI e.neg ≤ lev.getD e.fr 0) (hall : ∀ x ∈ C.nodes, nodeB C G W x = true) {L : Int} (low : ∀ y ∈ C.nodes, kyLv G lev y.ky < L → (0 < KyIn G T y.ky ↔ y.sign = true)) :
    ∀ (n : Nat) (x : Nod), x ∈ C.nodes → kyLv G lev x.ky = L → x.sign = true → x.rank < n → 0 < KyIn G T x.ky := by
  intro n
  induction n with
  | zero =>
    intro x hx hl hs hr
    exfalso
    have hn := hall x hx
    by_cases hk : x.kind = 0
    · obtain ⟨-, -, -, h⟩ := nodeB_name hn hk
      rw [hs] at h
      unfold hasOK rankedB at h
      simp at h
      omega
    · obtain ⟨r, c, q, y, z, -, -, -, -, -, h⟩ := nodeB_rest hn hk
      rw [hs] at h
      have h1 : rankedB C x = true := by
        unfold goesB at h
        simp only [if_true] at h
        split at h
        · simp only [Bool.and_eq_true] at h; exact h.2
        · split at h <;> simp only [Bool.and_eq_true] at h <;> exact h.2
      unfold rankedB at h1
      simp at h1
      omega
  | succ n ih =>
    intro x hx hl hs hr
    have hn := hall x hx
    have hsp := nodeB_span hn
    have i0 := hsp.i0
    have ij := hsp.ij
    have j1 := hsp.j1
    have kid : ∀ z ∈ C.nodes, z.sign = true → z.rank < x.rank → kyLv G lev z.ky ≤ L → 0 < KyIn G T z.ky := by
      intro z hz hzs hzr hzl
      by_cases h : kyLv G lev z.ky < L
      · exact (low z hz h).2 hzs
      · exact ih z hz (by omega) hzs (by omega)
    by_cases hk : x.kind = 0
    · obtain ⟨hky, k0, k1, h⟩ := nodeB_name hn hk
      rw [hs] at h
      simp only [if_true] at h
      unfold hasOK at h
      simp only [Bool.and_eq_true] at h
      obtain ⟨⟨h1, h2⟩, h3⟩ := h
      obtain ⟨p, hp, hlr⟩ := ranked_pick h3 (rising_ne h1)
      have h4 := List.all_eq_true.1 h2 p hp
      unfold ruleOK at h4
      by_cases hsp0 : p.sp < 0
      · rw [if_pos hsp0] at h4; cases h4
      · rw [if_neg hsp0] at h4
        obtain ⟨r, hr'⟩ : ∃ r : Nat, p.sp = (r : Int) := ⟨p.sp.toNat, by omega⟩
        rw [hr', Int.toNat_natCast] at h4
        cases hx' : G.rules[r]? with
        | none => rw [hx'] at h4; cases h4
        | some y =>
          rw [hx'] at h4
          simp only [Bool.and_eq_true, decide_eq_true_eq] at h4
          obtain ⟨⟨h5, h6⟩, h7⟩ := h4
          rw [hky, kyIn_name]
          rw [hky, kyLv_name] at hl
          have hH : HoldsTo (fun c => T.2 (offG G r c + 0) x.i x.j) y.conj y.conj.length := by
            intro c z hc hz
            have hkid : p.kids[c]? = some (p.kids[c]'(by omega)) := List.getElem?_eq_getElem (by omega)
            have h8 := List.all_eq_true.1 h7 c (List.mem_range.2 (by omega))
            unfold ruleKid at h8
            rw [hkid, hz, hr'] at h8
            simp only at h8
            obtain ⟨v, hv1, hv2, hv3, hv4⟩ := isB_node h8
            have hlv : kyLv G lev v.ky = 2 * lvG lev y + cjLv z := by rw [hv4]; exact kyLv_seq hx' hz 0 _ _
            have hin : KyIn G T v.ky = T.2 (offG G r c) x.i x.j := by rw [hv4]; exact kyIn_seq0 G T r c _ _
            have hL : 2 * lvG lev y + 1 = L := by unfold lvG; rw [h5]; omega
            simp only [Nat.add_zero]
            cases hneg : z.neg with
            | true =>
              rw [hneg] at hv3
              have h9 := low v hv2 (by rw [hlv]; unfold cjLv; rw [hneg]; simp; omega)
              rw [hin, hv3] at h9
              simp only [Bool.not_true, Bool.false_eq_true, iff_false] at h9
              simp [h9]
            | false =>
              rw [hneg] at hv3
              have h9 := kid v hv2 hv3 (lesser_rank hlr (List.mem_of_getElem? hkid) hv1 hv3) (by rw [hlv]; have := cjLv_bd z; omega)
              rw [hin] at h9
              simp [h9]
          have h10 := (H.view.nLe r y x.i x.j hx' (by rw [h5]; omega) i0 ij j1 hH).1
          rw [h5] at h10
          exact h10
    · obtain ⟨r, c, q, y, z, hpl, p, hky, hsy, hbh, h⟩ := nodeB_rest hn hk
      rw [hs] at h
      simp only [if_true] at h
      rw [hky, kyIn_seq]
      rw [hky, kyLv_seq p.hx p.hy] at hl
      unfold goesB at h
      rw [hsy] at h
      cases hsq : z.seq[q]? with
      | none =>
        rw [hsq] at h
        simp only [Bool.and_eq_true, decide_eq_true_eq] at h
        have hp := p.hp
        have : q = z.seq.length := by have := List.getElem?_eq_none_iff.1 hsq; omega
        subst this
        have h1 := H.view.pEnd r y c z x.i x.j p.hx p.hy i0 ij j1
        try simp only at h1
        rw [h1, if_pos h.1.1]
        omega
      | some s =>
        rw [hsq] at h
        simp only at h
        have hq : q < z.seq.length := (List.getElem?_eq_some_iff.1 hsq).1
        by_cases hsn : s.name < 0
        · rw [if_pos hsn] at h
          simp only [Bool.and_eq_true] at h
          obtain ⟨⟨h1, h2⟩, h3⟩ := h
          unfold readB at h1
          simp only [Bool.and_eq_true, decide_eq_true_eq] at h1
          obtain ⟨⟨a1, a2⟩, a3⟩ := h1
          unfold onB at h2
          split at h2
          · rename_i pk hpk
            split at h2
            · rename_i k hkd
              simp only [Bool.and_eq_true, decide_eq_true_eq] at h2
              obtain ⟨⟨-, -⟩, h2⟩ := h2
              obtain ⟨p', hp', hlr⟩ := ranked_pick h3 (by rw [hpk]; simp)
              have : p' = pk := by rw [hpk] at hp'; simpa using hp'
              subst this
              obtain ⟨v, hv1, hv2, hv3, hv4⟩ := isB_node h2
              rw [hbh] at hv4
              have h9 := kid v hv2 hv3 (lesser_rank hlr (by rw [hkd]; simp) hv1 hv3) (by rw [hv4, kyLv_seq p.hx p.hy]; omega)
              rw [hv4, kyIn_seq] at h9
              have h10 := H.view.pByte r y c z q s x.i x.j p.hx p.hy hsq hsn i0 ij j1
              try simp only at h10
              rw [if_pos ⟨a1, a2, a3, h9⟩] at h10
              omega
            · cases h2
          · cases h2
        · rw [if_neg hsn] at h
          simp only [Bool.and_eq_true] at h
          obtain ⟨⟨h1, h2⟩, h3⟩ := h
          obtain ⟨p', hp', hlr⟩ := ranked_pick h3 (rising_ne h1)
          have h4 := List.all_eq_true.1 h2 p' hp'
          unfold splitOK at h4
          simp only [Bool.and_eq_true, decide_eq_true_eq] at h4
          obtain ⟨⟨a1, a2⟩, h4⟩ := h4
          split at h4
          · rename_i k m hkd
            simp only [Bool.and_eq_true] at h4
            obtain ⟨h5, h6⟩ := h4
            obtain ⟨v, hv1, hv2, hv3, hv4⟩ := isB_node h5
            obtain ⟨u, hu1, hu2, hu3, hu4⟩ := isB_node h6
            rw [hbh] at hu4
            have h9 := kid v hv2 hv3 (lesser_rank hlr (by rw [hkd]; simp) hv1 hv3) (by rw [hv4]; have := name_level M hg p hsq (by omega) x.i p'.sp; omega)
            have h10 := kid u hu2 hu3 (lesser_rank hlr (by rw [hkd]; simp) hu1 hu3) (by rw [hu4, kyLv_seq p.hx p.hy]; omega)
            rw [hv4, kyIn_name] at h9
            rw [hu4, kyIn_seq] at h10
            have h11 := H.view.pName r y c z q s x.i x.j p.hx p.hy hsq (by omega) i0 ij j1
            obtain ⟨d, hd⟩ : ∃ d : Nat, p'.sp = x.i + (d : Int) := ⟨(p'.sp - x.i).toNat, by omega⟩
            rw [hd] at h9 h10
            exact (h11.le d (by omega) h9 h10).1
          · cases h4
/-- What is said to be out is out. -/
theorem minus_true (H : Truth G W T) (M : MayG G) (hg : ∀ e ∈ edgesOf G, lev.getD e.to 0 + negI e.neg ≤ lev.getD e.fr 0) (hall : ∀ x ∈ C.nodes, nodeB C G W x = true) {L : Int} (low : ∀ y ∈ C.nodes, kyLv G lev y.ky < L → (0 < KyIn G T y.ky ↔ y.sign = true)) :
    ∀ (n : Nat) (x : Nod), x ∈ C.nodes → kyLv G lev x.ky = L → x.sign = false → KyIn G T x.ky < n → ¬ 0 < KyIn G T x.ky := by
  intro n
  induction n with
  | zero => intro x hx hl hs hr; omega
  | succ n ih =>
    intro x hx hl hs hr hin
    have hn := hall x hx
    have hsp := nodeB_span hn
    have i0 := hsp.i0
    have ij := hsp.ij
    have j1 := hsp.j1
    have kid : ∀ z ∈ C.nodes, z.sign = false → KyIn G T z.ky < KyIn G T x.ky → kyLv G lev z.ky ≤ L → ¬ 0 < KyIn G T z.ky := by
      intro z hz hzs hzr hzl
      by_cases h : kyLv G lev z.ky < L
      · intro hp
        have := (low z hz h).1 hp
        rw [hzs] at this
        cases this
      · exact ih z hz (by omega) hzs (by omega)
    by_cases hk : x.kind = 0
    · obtain ⟨hky, k0, k1, h⟩ := nodeB_name hn hk
      rw [hs] at h
      simp only [Bool.false_eq_true, if_false] at h
      have hxin : KyIn G T x.ky = T.1 x.name.toNat x.i x.j := by rw [hky]; exact kyIn_name _ _ _ _ _
      have hlx := hl
      rw [hky, kyLv_name] at hlx
      rw [hxin] at hin
      obtain ⟨r, y, hr', hh, hH, he⟩ := H.view.nIs x.name.toNat x.i x.j (by omega) i0 ij j1 hin
      have hhd := (M.head r y hr').1
      unfold lacksB at h
      simp only [Bool.and_eq_true, decide_eq_true_eq] at h
      have h1 := List.all_eq_true.1 h.1 r (List.mem_range.2 (List.getElem?_eq_some_iff.1 hr').1)
      unfold lackAt at h1
      rw [hr'] at h1
      simp only at h1
      rw [if_pos (by omega)] at h1
      split at h1
      · cases h1
      · rename_i pk hpk
        unfold failsB at h1
        simp only [Bool.and_eq_true, decide_eq_true_eq] at h1
        obtain ⟨-, h1⟩ := h1
        by_cases hc0 : pk.cj < 0
        · rw [if_pos hc0] at h1; cases h1
        · rw [if_neg hc0] at h1
          obtain ⟨c, hc⟩ : ∃ c : Nat, pk.cj = (c : Int) := ⟨pk.cj.toNat, by omega⟩
          rw [hc, Int.toNat_natCast] at h1
          split at h1
          · rename_i z k hz hkd
            obtain ⟨v, hv1, hv2, hv3, hv4⟩ := isB_node h1
            have hlv : kyLv G lev v.ky = 2 * lvG lev y + cjLv z := by rw [hv4]; exact kyLv_seq hr' hz 0 _ _
            have hvin : KyIn G T v.ky = T.2 (offG G r c) x.i x.j := by rw [hv4]; exact kyIn_seq0 G T r c _ _
            have hL : 2 * lvG lev y + 1 = L := by unfold lvG; rw [hh]; omega
            have hcl : c < y.conj.length := (List.getElem?_eq_some_iff.1 hz).1
            have h2 := hH c z hcl hz
            simp only [Nat.add_zero] at h2
            cases hneg : z.neg with
            | true =>
              rw [hneg] at hv3 h2
              have h9 := (low v hv2 (by rw [hlv]; unfold cjLv; rw [hneg]; simp; omega)).2 hv3
              rw [hvin] at h9
              simp [h9] at h2
            | false =>
              rw [hneg] at hv3 h2
              have h3 : 0 < T.2 (offG G r c) x.i x.j := by simpa using h2
              have h4 : T.2 (offG G r c + 0) x.i x.j + 1 ≤ topTo (fun c => T.2 (offG G r c + 0) x.i x.j) y.conj.length := topTo_at (f := fun c => T.2 (offG G r c + 0) x.i x.j) hcl
              rw [Nat.add_zero] at h4
              have h9 := kid v hv2 hv3 (by rw [hvin, hxin]; omega) (by rw [hlv]; have := cjLv_bd z; omega)
              rw [hvin] at h9
              exact h9 h3
          · cases h1
    · obtain ⟨r, c, q, y, z, hpl, p, hky, hsy, hbh, h⟩ := nodeB_rest hn hk
      rw [hs] at h
      simp only [Bool.false_eq_true, if_false] at h
      have hxin : KyIn G T x.ky = T.2 (offG G r c + q) x.i x.j := by rw [hky]; exact kyIn_seq _ _ _ _ _ _ _
      have hlx := hl
      rw [hky, kyLv_seq p.hx p.hy] at hlx
      rw [hxin] at hin
      unfold stopsB at h
      rw [hsy] at h
      simp only [Bool.and_eq_true, decide_eq_true_eq] at h
      obtain ⟨-, h⟩ := h
      cases hsq : z.seq[q]? with
      | none =>
        rw [hsq] at h
        simp only [Bool.and_eq_true, decide_eq_true_eq] at h
        have hp := p.hp
        have : q = z.seq.length := by have := List.getElem?_eq_none_iff.1 hsq; omega
        subst this
        have h1 := H.view.pEnd r y c z x.i x.j p.hx p.hy i0 ij j1
        try simp only at h1
        rw [h1, if_neg h.1] at hin
        omega
      | some s =>
        rw [hsq] at h
        simp only at h
        by_cases hsn : s.name < 0
        · rw [if_pos hsn] at h
          have h10 := H.view.pByte r y c z q s x.i x.j p.hx p.hy hsq hsn i0 ij j1
          try simp only at h10
          split at h10
          · rename_i hcond
            obtain ⟨a1, a2, a3, a4⟩ := hcond
            have hrd : readB W x s = true := by unfold readB; rw [decide_eq_true a1, decide_eq_true a2, decide_eq_true a3]; rfl
            rw [if_pos hrd] at h
            unfold onB at h
            split at h
            · rename_i pk hpk
              split at h
              · rename_i k hkd
                simp only [Bool.and_eq_true, decide_eq_true_eq] at h
                obtain ⟨v, hv1, hv2, hv3, hv4⟩ := isB_node h.2
                rw [hbh] at hv4
                have hvin : KyIn G T v.ky = T.2 (offG G r c + (q + 1)) (x.i + 1) x.j := by rw [hv4]; exact kyIn_seq _ _ _ _ _ _ _
                have h9 := kid v hv2 hv3 (by rw [hvin, hxin]; omega) (by rw [hv4, kyLv_seq p.hx p.hy]; omega)
                rw [hvin] at h9
                exact h9 a4
              · cases h
            · cases h
          · omega
        · rw [if_neg hsn] at h
          simp only [Bool.and_eq_true, decide_eq_true_eq] at h
          obtain ⟨hlen, h⟩ := h
          have h11 := H.view.pName r y c z q s x.i x.j p.hx p.hy hsq (by omega) i0 ij j1
          obtain ⟨d, hd, a1, a2, a3⟩ := h11.is hin
          have hdl : d < x.picks.length := by omega
          have h1 := List.all_eq_true.1 h d (List.mem_range.2 hdl)
          unfold wantAt at h1
          rw [List.getElem?_eq_getElem hdl] at h1
          try simp only at h1
          unfold wantsB at h1
          simp only [Bool.and_eq_true, decide_eq_true_eq] at h1
          obtain ⟨-, h1⟩ := h1
          split at h1
          · rename_i k hkd
            rw [Bool.or_eq_true] at h1
            rcases h1 with h1 | h1
            · obtain ⟨v, hv1, hv2, hv3, hv4⟩ := isB_node h1
              have hvin : KyIn G T v.ky = T.1 s.name.toNat x.i (x.i + d) := by rw [hv4]; exact kyIn_name _ _ _ _ _
              have h9 := kid v hv2 hv3 (by rw [hvin, hxin]; omega) (by rw [hv4]; have := name_level M hg p hsq (by omega) x.i (x.i + d); omega)
              rw [hvin] at h9
              exact h9 a1
            · obtain ⟨v, hv1, hv2, hv3, hv4⟩ := isB_node h1
              rw [hbh] at hv4
              have hvin : KyIn G T v.ky = T.2 (offG G r c + (q + 1)) (x.i + d) x.j := by rw [hv4]; exact kyIn_seq _ _ _ _ _ _ _
              have h9 := kid v hv2 hv3 (by rw [hvin, hxin]; omega) (by rw [hv4, kyLv_seq p.hx p.hy]; omega)
              rw [hvin] at h9
              exact h9 a2
          · cases h1
/-- Each node of a proof that is taken is true. -/
theorem nodes_true (H : Truth G W T) (M : MayG G) (hg : ∀ e ∈ edgesOf G, lev.getD e.to 0 + negI e.neg ≤ lev.getD e.fr 0) (hall : ∀ x ∈ C.nodes, nodeB C G W x = true) : ∀ x ∈ C.nodes, (0 < KyIn G T x.ky ↔ x.sign = true) := by
  have key : ∀ (n : Nat) (lo : Int), (∀ y ∈ C.nodes, lo ≤ kyLv G lev y.ky) → ∀ x ∈ C.nodes, kyLv G lev x.ky < lo + n → (0 < KyIn G T x.ky ↔ x.sign = true) := by
    intro n
    induction n with
    | zero => intro lo hlo x hx hl; have := hlo x hx; omega
    | succ n ih =>
      intro lo hlo x hx hl
      by_cases hlt : kyLv G lev x.ky < lo + n
      · exact ih lo hlo x hx hlt
      · have hL : kyLv G lev x.ky = lo + n := by omega
        cases hs : x.sign with
        | true =>
          have := plus_true H M hg hall (L := lo + n) (fun y hy hyl => ih lo hlo y hy hyl) (x.rank.toNat + 1) x hx hL hs (by omega)
          simp [this]
        | false =>
          have := minus_true H M hg hall (L := lo + n) (fun y hy hyl => ih lo hlo y hy hyl) ((KyIn G T x.ky).toNat + 1) x hx hL hs (by omega)
          simp [this]
  intro x hx
  obtain ⟨lo, hlo⟩ : ∃ lo : Int, ∀ y ∈ C.nodes, lo ≤ kyLv G lev y.ky := by
    generalize C.nodes = l
    induction l with
    | nil => exact ⟨0, fun y hy => by cases hy⟩
    | cons a l ih =>
      obtain ⟨lo, h⟩ := ih
      refine ⟨min lo (kyLv G lev a.ky), fun y hy => ?_⟩
      rcases List.mem_cons.1 hy with rfl | hy
      · exact Int.min_le_right _ _
      · have := h y hy; omega
  exact key ((kyLv G lev x.ky - lo).toNat + 1) lo hlo x hx (by have := hlo x hx; omega)
end
end Go.Proofs.YtfmfoiecphhhiaaGreat
