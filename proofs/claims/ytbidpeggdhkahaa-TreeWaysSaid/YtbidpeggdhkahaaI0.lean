/-
  I0: keys, nodes, proofs as they lie in memory; what a checker answers, plain. No program in sight.
-/
import Derived.Test.YtbidpeggdhkahaaMp
set_option linter.unusedSimpArgs false
set_option linter.unusedVariables false
namespace Go.Proofs.Ytbidpeggdhkahaa
open Go.RowKit

structure Plc where
  rule : Int
  conj : Int
  pos : Int
deriving DecidableEq
structure Pck where
  sp : Int
  cj : Int
  kids : List Int
/-- What a node is about. -/
structure Ky where
  kind : Int
  name : Int
  plc : Plc
  i : Int
  j : Int
deriving DecidableEq
structure Nod where
  sign : Bool
  kind : Int
  name : Int
  plc : Plc
  i : Int
  j : Int
  rank : Int
  picks : List Pck
structure Crt where
  root : Int
  nodes : List Nod
def Nod.ky (x : Nod) : Ky := ⟨x.kind, x.name, x.plc, x.i, x.j⟩

def plcRd : Rd Plc := Rd.iso (Rd.pair Rd.int (Rd.pair Rd.int Rd.int)) (fun x => (x.rule, x.conj, x.pos))
def pckRd : Rd Pck := Rd.iso (Rd.pair Rd.int (Rd.pair Rd.int (Rd.sl Rd.int))) (fun x => (x.sp, x.cj, x.kids))
def nodRd : Rd Nod := Rd.iso (Rd.pair Rd.bool (Rd.pair Rd.int (Rd.pair Rd.int (Rd.pair plcRd (Rd.pair Rd.int (Rd.pair Rd.int (Rd.pair Rd.int (Rd.sl pckRd)))))))) (fun x => (x.sign, x.kind, x.name, x.plc, x.i, x.j, x.rank, x.picks))
def crtRd : Rd Crt := Rd.iso (Rd.pair Rd.int (Rd.sl nodRd)) (fun x => (x.root, x.nodes))

theorem plcRd_open {w : World} {x : Plc} {cs : List Value} (h : plcRd.K w x cs) : cs = [.int .i64 x.rule, .int .i64 x.conj, .int .i64 x.pos] := by
  obtain ⟨c1, c2, rfl, rfl, c3, c4, rfl, rfl, rfl⟩ := h
  rfl
theorem plcRd_mk (w : World) (x : Plc) : plcRd.K w x [.int .i64 x.rule, .int .i64 x.conj, .int .i64 x.pos] := ⟨[_], [_, _], rfl, rfl, [_], [_], rfl, rfl, rfl⟩
theorem pckRd_open {w : World} {x : Pck} {cs : List Value} (h : pckRd.K w x cs) : ∃ A c, cs = [.int .i64 x.sp, .int .i64 x.cj, .slice A x.kids.length c] ∧ x.kids.length ≤ c ∧ c ≤ 9223372036854775807 ∧ Rd.int.C w A x.kids := by
  obtain ⟨c1, c2, rfl, rfl, c3, c4, rfl, rfl, A, c, rfl, h1, h2, h3⟩ := h
  exact ⟨A, c, rfl, h1, h2, h3⟩
theorem pckRd_mk {w : World} {x : Pck} {A : Option Addr} {c : Nat} (h1 : x.kids.length ≤ c) (h2 : c ≤ 9223372036854775807) (h3 : Rd.int.C w A x.kids) : pckRd.K w x [.int .i64 x.sp, .int .i64 x.cj, .slice A x.kids.length c] :=
  ⟨[_], [_, _], rfl, rfl, [_], [_], rfl, rfl, A, c, rfl, h1, h2, h3⟩
theorem nodRd_open {w : World} {x : Nod} {cs : List Value} (h : nodRd.K w x cs) : ∃ A c, cs = [.bool x.sign, .int .i64 x.kind, .int .i64 x.name, .int .i64 x.plc.rule, .int .i64 x.plc.conj, .int .i64 x.plc.pos, .int .i64 x.i, .int .i64 x.j, .int .i64 x.rank, .slice A x.picks.length c] ∧
    x.picks.length ≤ c ∧ c ≤ 9223372036854775807 ∧ pckRd.C w A x.picks := by
  obtain ⟨c1, c2, rfl, rfl, c3, c4, rfl, rfl, c5, c6, rfl, rfl, c7, c8, rfl, hp, c9, c10, rfl, rfl, c11, c12, rfl, rfl, c13, c14, rfl, rfl, A, c, rfl, h1, h2, h3⟩ := h
  have := plcRd_open hp
  simp only at this
  subst this
  exact ⟨A, c, rfl, h1, h2, h3⟩
theorem nodRd_mk {w : World} {x : Nod} {A : Option Addr} {c : Nat} (h1 : x.picks.length ≤ c) (h2 : c ≤ 9223372036854775807) (h3 : pckRd.C w A x.picks) :
    nodRd.K w x [.bool x.sign, .int .i64 x.kind, .int .i64 x.name, .int .i64 x.plc.rule, .int .i64 x.plc.conj, .int .i64 x.plc.pos, .int .i64 x.i, .int .i64 x.j, .int .i64 x.rank, .slice A x.picks.length c] :=
  ⟨[_], [_, _, _, _, _, _, _, _, _], rfl, rfl, [_], [_, _, _, _, _, _, _, _], rfl, rfl, [_], [_, _, _, _, _, _, _], rfl, rfl, [_, _, _], [_, _, _, _], rfl, plcRd_mk w x.plc, [_], [_, _, _], rfl, rfl, [_], [_, _], rfl, rfl, [_], [_], rfl, rfl, A, c, rfl, h1, h2, h3⟩
theorem crtRd_open {w : World} {x : Crt} {cs : List Value} (h : crtRd.K w x cs) : ∃ A c, cs = [.int .i64 x.root, .slice A x.nodes.length c] ∧ x.nodes.length ≤ c ∧ c ≤ 9223372036854775807 ∧ nodRd.C w A x.nodes := by
  obtain ⟨c1, c2, rfl, rfl, A, c, rfl, h1, h2, h3⟩ := h
  exact ⟨A, c, rfl, h1, h2, h3⟩

/-- A node as it lies in memory. -/
structure NodAt (w : World) (a : Addr) (x : Nod) (A : Option Addr) (c : Nat) : Prop where
  blk : a.block < w.heap.size
  c0 : w.cell? a = some (.bool x.sign)
  c1 : w.cell? ⟨a.block, a.off + 1, none⟩ = some (.int .i64 x.kind)
  c2 : w.cell? ⟨a.block, a.off + 2, none⟩ = some (.int .i64 x.name)
  c3 : w.cell? ⟨a.block, a.off + 3, none⟩ = some (.int .i64 x.plc.rule)
  c4 : w.cell? ⟨a.block, a.off + 4, none⟩ = some (.int .i64 x.plc.conj)
  c5 : w.cell? ⟨a.block, a.off + 5, none⟩ = some (.int .i64 x.plc.pos)
  c6 : w.cell? ⟨a.block, a.off + 6, none⟩ = some (.int .i64 x.i)
  c7 : w.cell? ⟨a.block, a.off + 7, none⟩ = some (.int .i64 x.j)
  c8 : w.cell? ⟨a.block, a.off + 8, none⟩ = some (.int .i64 x.rank)
  c9 : w.cell? ⟨a.block, a.off + 9, none⟩ = some (.slice A x.picks.length c)
  l1 : x.picks.length ≤ c
  l2 : c ≤ 9223372036854775807
  pk : pckRd.C w A x.picks
theorem NodAt.mono {w w' : World} {a : Addr} {x : Nod} {A : Option Addr} {c : Nat} (h : NodAt w a x A c) (hb : Below w.heap.size w w') : NodAt w' a x A c :=
  ⟨Nat.lt_of_lt_of_le h.blk hb.size, below_cell hb h.c0, below_cell hb h.c1, below_cell hb h.c2, below_cell hb h.c3, below_cell hb h.c4, below_cell hb h.c5, below_cell hb h.c6, below_cell hb h.c7, below_cell hb h.c8, below_cell hb h.c9, h.l1, h.l2, h.pk.mono hb⟩
/-- A pick as it lies in memory. -/
structure PckAt (w : World) (a : Addr) (x : Pck) (A : Option Addr) (c : Nat) : Prop where
  blk : a.block < w.heap.size
  c0 : w.cell? a = some (.int .i64 x.sp)
  c1 : w.cell? ⟨a.block, a.off + 1, none⟩ = some (.int .i64 x.cj)
  c2 : w.cell? ⟨a.block, a.off + 2, none⟩ = some (.slice A x.kids.length c)
  l1 : x.kids.length ≤ c
  l2 : c ≤ 9223372036854775807
  kd : Rd.int.C w A x.kids
theorem PckAt.mono {w w' : World} {a : Addr} {x : Pck} {A : Option Addr} {c : Nat} (h : PckAt w a x A c) (hb : Below w.heap.size w w') : PckAt w' a x A c :=
  ⟨Nat.lt_of_lt_of_le h.blk hb.size, below_cell hb h.c0, below_cell hb h.c1, below_cell hb h.c2, h.l1, h.l2, h.kd.mono hb⟩
theorem nod_at {w : World} {A : Option Addr} {xs : List Nod} (h : nodRd.C w A xs) {i : Nat} {x : Nod} (hx : xs[i]? = some x) : ∃ ad A1 c1, A = some ad ∧ NodAt w (ad.add (i * 10)) x A1 c1 := by
  obtain ⟨ad, cs, hA, hK, hc⟩ := h i x hx
  obtain ⟨A1, c1, rfl, k1, k2, k3⟩ := nodRd_open hK
  rw [show nodRd.sz = 10 from rfl] at hc
  have h0 := hc 0 _ rfl
  have hn : ∀ (j : Nat) v, 0 < j → [Value.bool x.sign, .int .i64 x.kind, .int .i64 x.name, .int .i64 x.plc.rule, .int .i64 x.plc.conj, .int .i64 x.plc.pos, .int .i64 x.i, .int .i64 x.j, .int .i64 x.rank, .slice A1 x.picks.length c1][j]? = some v → w.cell? ⟨(ad.add (i * 10)).block, (ad.add (i * 10)).off + j, none⟩ = some v := by
    intro j v hj hv
    have := hc j v hv
    rwa [add_off _ _ _ hj] at this
  exact ⟨ad, A1, c1, hA, World.block_lt_of_cell? w _ h0, h0, hn 1 _ (by omega) rfl, hn 2 _ (by omega) rfl, hn 3 _ (by omega) rfl, hn 4 _ (by omega) rfl, hn 5 _ (by omega) rfl, hn 6 _ (by omega) rfl, hn 7 _ (by omega) rfl, hn 8 _ (by omega) rfl, hn 9 _ (by omega) rfl, k1, k2, k3⟩
theorem pck_at {w : World} {A : Option Addr} {xs : List Pck} (h : pckRd.C w A xs) {i : Nat} {x : Pck} (hx : xs[i]? = some x) : ∃ ad A1 c1, A = some ad ∧ PckAt w (ad.add (i * 3)) x A1 c1 := by
  obtain ⟨ad, cs, hA, hK, hc⟩ := h i x hx
  obtain ⟨A1, c1, rfl, k1, k2, k3⟩ := pckRd_open hK
  rw [show pckRd.sz = 3 from rfl] at hc
  have h0 := hc 0 _ rfl
  have h1 := hc 1 _ rfl
  have h2 := hc 2 _ rfl
  rw [add_off _ _ _ (by omega)] at h1 h2
  exact ⟨ad, A1, c1, hA, World.block_lt_of_cell? w _ h0, h0, h1, h2, k1, k2, k3⟩

/-! What a checker says. -/
def seqKey (p : Plc) (i j : Int) : Ky := ⟨1, 0, p, i, j⟩
def nameKey (name i j : Int) : Ky := ⟨0, name, ⟨0, 0, 0⟩, i, j⟩
def ndAt (c : Crt) (k : Int) : Option Nod := if k < 0 then none else c.nodes[k.toNat]?
/-- Is a kid a node of this sign about this? -/
def isB (c : Crt) (kid : Int) (sign : Bool) (k : Ky) : Bool := match ndAt c kid with
  | none => false
  | some y => (y.sign == sign) && decide (y.ky = k)
/-- The conjunct of a place. -/
def cjAt (G : Gram) (r c : Int) : Option Conj := if r < 0 ∨ c < 0 then none else match G.rules[r.toNat]? with
  | none => none
  | some x => x.conj[c.toNat]?
def plcB (G : Gram) (p : Plc) : Bool := placeB G.rules p.rule p.conj p.pos
def shapeB (G : Gram) (W : ByteArray) (x : Nod) : Bool :=
  (decide (0 ≤ x.i) && decide (x.i ≤ x.j) && decide (x.j ≤ W.size)) &&
    (if x.kind = 0 then decide (0 ≤ x.name) && decide (x.name < G.names.length) && decide (x.plc = ⟨0, 0, 0⟩) else decide (x.kind = 1) && decide (x.name = 0) && plcB G x.plc)
def lessK (c : Crt) (rank k : Int) : Bool := match ndAt c k with
  | none => true
  | some y => !(y.sign && decide (rank ≤ y.rank))
def lesserB (c : Crt) (p : Pck) (rank : Int) : Bool := p.kids.all (lessK c rank)
def rankedB (c : Crt) (x : Nod) : Bool := decide (1 ≤ x.rank) && (x.picks.isEmpty || x.picks.any (fun p => lesserB c p x.rank))
def riseAt (ps : List Pck) (i : Nat) : Bool := match ps[i]? with
  | none => true
  | some p => decide (p.cj = 0) && (match i with
    | 0 => true
    | k + 1 => match ps[k]? with
      | none => true
      | some q => decide (q.sp < p.sp))
def risingB (ps : List Pck) : Bool := decide (0 < ps.length) && (List.range ps.length).all (riseAt ps)
def ruleKid (c : Crt) (x : Nod) (p : Pck) (cs : List Conj) (q : Nat) : Bool := match p.kids[q]?, cs[q]? with
  | some k, some y => isB c k (!y.neg) (seqKey ⟨p.sp, q, 0⟩ x.i x.j)
  | _, _ => true
def ruleOK (c : Crt) (G : Gram) (x : Nod) (p : Pck) : Bool := if p.sp < 0 then false else match G.rules[p.sp.toNat]? with
  | none => false
  | some r => decide (r.head = x.name) && decide (p.kids.length = r.conj.length) && (List.range p.kids.length).all (ruleKid c x p r.conj)
def hasOK (c : Crt) (G : Gram) (x : Nod) : Bool := risingB x.picks && x.picks.all (ruleOK c G x) && rankedB c x
/-- The symbol at a place that there is. -/
def symOf (G : Gram) (p : Plc) : Option Sym := match cjAt G p.rule p.conj with
  | none => none
  | some y => y.seq[p.pos.toNat]?
def behind (x : Nod) : Plc := ⟨x.plc.rule, x.plc.conj, x.plc.pos + 1⟩
def readB (W : ByteArray) (x : Nod) (s : Sym) : Bool := decide (x.i < x.j) && decide (s.lo ≤ btz W x.i) && decide (btz W x.i ≤ s.hi)
def onB (c : Crt) (x : Nod) (sign : Bool) : Bool := match x.picks with
  | [p] => match p.kids with
    | [k] => decide (p.sp = x.i + 1) && decide (p.cj = 0) && isB c k sign (seqKey (behind x) (x.i + 1) x.j)
    | _ => false
  | _ => false
def splitOK (c : Crt) (x : Nod) (name : Int) (p : Pck) : Bool := decide (x.i ≤ p.sp) && decide (p.sp ≤ x.j) && (match p.kids with
  | [k, m] => isB c k true (nameKey name x.i p.sp) && isB c m true (seqKey (behind x) p.sp x.j)
  | _ => false)
def goesB (c : Crt) (G : Gram) (W : ByteArray) (x : Nod) : Bool := match symOf G x.plc with
  | none => decide (x.i = x.j) && x.picks.isEmpty && rankedB c x
  | some s => if s.name < 0 then readB W x s && onB c x true && rankedB c x else risingB x.picks && x.picks.all (splitOK c x s.name) && rankedB c x
def failsB (c : Crt) (x : Nod) (r : Nat) (cs : List Conj) (p : Pck) : Bool := decide (p.sp = r) && (if p.cj < 0 then false else match cs[p.cj.toNat]?, p.kids with
  | some y, [k] => isB c k y.neg (seqKey ⟨r, p.cj, 0⟩ x.i x.j)
  | _, _ => false)
/-- How many of the first n rules have this head. -/
def headsN (rs : List Rul) (name : Int) : Nat → Nat
  | 0 => 0
  | n + 1 => match rs[n]? with
    | none => headsN rs name n
    | some r => if r.head = name then headsN rs name n + 1 else headsN rs name n
def lackAt (c : Crt) (G : Gram) (x : Nod) (r : Nat) : Bool := match G.rules[r]? with
  | none => true
  | some y => if y.head = x.name then (match x.picks[headsN G.rules x.name r]? with
      | none => false
      | some p => failsB c x r y.conj p) else true
def lacksB (c : Crt) (G : Gram) (x : Nod) : Bool := (List.range G.rules.length).all (lackAt c G x) && (decide (x.rank = 0) && decide (headsN G.rules x.name G.rules.length = x.picks.length))
def wantsB (c : Crt) (x : Nod) (name at' : Int) (p : Pck) : Bool := decide (p.sp = at') && decide (p.cj = 0) && (match p.kids with
  | [k] => isB c k false (nameKey name x.i at') || isB c k false (seqKey (behind x) at' x.j)
  | _ => false)
def wantAt (c : Crt) (x : Nod) (name : Int) (q : Nat) : Bool := match x.picks[q]? with
  | none => true
  | some p => wantsB c x name (x.i + q) p
def stopsB (c : Crt) (G : Gram) (W : ByteArray) (x : Nod) : Bool := decide (x.rank = 0) && (match symOf G x.plc with
  | none => decide (x.i ≠ x.j) && x.picks.isEmpty
  | some s => if s.name < 0 then (if readB W x s then onB c x false else x.picks.isEmpty) else decide ((x.picks.length : Int) = x.j - x.i + 1) && (List.range x.picks.length).all (wantAt c x s.name))
def nodeB (c : Crt) (G : Gram) (W : ByteArray) (x : Nod) : Bool := shapeB G W x &&
  (if x.kind = 0 then (if x.sign then hasOK c G x else lacksB c G x) else (if x.sign then goesB c G W x else stopsB c G W x))
/-- Is each kid a node? -/
def kidsIn (c : Crt) (x : Nod) : Bool := x.picks.all (fun p => p.kids.all (fun k => decide (0 ≤ k) && decide (k < c.nodes.length)))
def kidsB (c : Crt) : Bool := decide ((c.nodes.map Nod.ky).Nodup) && c.nodes.all (kidsIn c)
def rootB (c : Crt) (G : Gram) (W : ByteArray) : Bool := isB c c.root true (nameKey G.start 0 W.size) || isB c c.root false (nameKey G.start 0 W.size)
def takenB (c : Crt) (G : Gram) (W : ByteArray) : Bool := kidsB c && rootB c G W && c.nodes.all (nodeB c G W)
/-- The sign of its root. -/
def signB (c : Crt) : Bool := match ndAt c c.root with
  | none => false
  | some y => y.sign
def kyV (k : Ky) : Value := .agg #[.int .i64 k.kind, .int .i64 k.name, .int .i64 k.plc.rule, .int .i64 k.plc.conj, .int .i64 k.plc.pos, .int .i64 k.i, .int .i64 k.j]
def plV (p : Plc) : Value := .agg #[.int .i64 p.rule, .int .i64 p.conj, .int .i64 p.pos]
end Go.Proofs.Ytbidpeggdhkahaa
