/-
  I1: the picks of proofs by keys; trees: plain. No program in sight.
-/
import Derived.Test.YtbidpeggdhkahaaI0
import Derived.Test.YtbidpeggdhkahaaP1
set_option linter.unusedSimpArgs false
set_option linter.unusedVariables false
namespace Go.Proofs.Ytbidpeggdhkahaa
open Go.RowKit

/-- A pick whose kids are keys. -/
structure Stp where
  sp : Int
  cj : Int
  kids : List Ky
def onP (p : Plc) : Plc := ⟨p.rule, p.conj, p.pos + 1⟩
/-- The rest that a conjunct is, over a key's span. -/
def ckey (r c : Nat) (k : Ky) : Ky := seqKey ⟨r, c, 0⟩ k.i k.j
section
variable (R : Ky → Int) (G : Gram) (W : ByteArray)
/-- Is a conjunct as it must be? -/
def cOK (k : Ky) (r : Nat) (cs : List Conj) (c : Nat) : Bool := match cs[c]? with
  | none => true
  | some y => (decide (0 < R (ckey r c k))) != y.neg
def holdsK (k : Ky) (r : Nat) (x : Rul) : Bool := (List.range x.conj.length).all (cOK R k r x.conj)
def wrongK (k : Ky) (r : Nat) (x : Rul) : Option Nat := (List.range x.conj.length).find? (fun c => !cOK R k r x.conj c)
def conjKeys (k : Ky) (r : Nat) (x : Rul) : List Ky := (List.range x.conj.length).map (fun c => ckey r c k)
def wrongStep (k : Ky) (r : Nat) (x : Rul) : Stp := match wrongK R k r x with
  | some c => ⟨r, c, [ckey r c k]⟩
  | none => ⟨r, 0, []⟩
def ruleStep (k : Ky) (sign : Bool) (r : Nat) (x : Rul) : List Stp :=
  if x.head = k.name ∧ holdsK R k r x = sign then [if sign then ⟨r, 0, conjKeys k r x⟩ else wrongStep R k r x] else []
def rulesTo (k : Ky) (sign : Bool) : Nat → List Stp
  | 0 => []
  | n + 1 => rulesTo k sign n ++ (match G.rules[n]? with
    | none => []
    | some x => ruleStep R k sign n x)
def byteStep (k : Ky) (s : Sym) : List Stp := if k.i = k.j ∨ btz W k.i < s.lo ∨ s.hi < btz W k.i then [] else [⟨k.i + 1, 0, [seqKey (onP k.plc) (k.i + 1) k.j]⟩]
def splitStep (k : Ky) (nm : Int) (sign : Bool) (at' : Int) : List Stp :=
  if sign then (if 0 < R (nameKey nm k.i at') ∧ 0 < R (seqKey (onP k.plc) at' k.j) then [⟨at', 0, [nameKey nm k.i at', seqKey (onP k.plc) at' k.j]⟩] else [])
  else (if R (nameKey nm k.i at') = 0 then [⟨at', 0, [nameKey nm k.i at']⟩] else [⟨at', 0, [seqKey (onP k.plc) at' k.j]⟩])
def splitsTo (k : Ky) (nm : Int) (sign : Bool) : Nat → List Stp
  | 0 => []
  | d + 1 => splitsTo k nm sign d ++ splitStep R k nm sign (k.i + d)
def lessKB (ks : List Ky) (rank : Int) : Bool := !ks.any (fun q => decide (rank ≤ R q))
def chosenB (full : Bool) (all : List Stp) (rank : Int) : List Stp := if full then all else (all.find? (fun s => lessKB R s.kids rank)).toList
def picksB (full : Bool) (k : Ky) : List Stp :=
  if k.kind = 0 then (if 0 < R k then chosenB R full (rulesTo R G k true G.rules.length) (R k) else rulesTo R G k false G.rules.length)
  else match symOf G k.plc with
    | none => []
    | some s => if s.name < 0 then byteStep W k s
      else if 0 < R k then chosenB R full (splitsTo R k s.name true (k.j - k.i + 1).toNat) (R k) else splitsTo R k s.name false (k.j - k.i + 1).toNat

/-- The names of a conjunct, with their spans, by the picks of its rests. -/
def alongTo : Nat → Ky → List Ky
  | 0, _ => []
  | n + 1, k => match picksB R G W false k with
    | [] => []
    | s :: _ => match s.kids with
      | [a, b] => a :: alongTo n b
      | [b] => alongTo n b
      | _ => []
def partsTo (x : Rul) (kids : List Ky) : Nat → List Ky
  | 0 => []
  | c + 1 => partsTo x kids c ++ (match x.conj[c]?, kids[c]? with
    | some y, some q => if y.neg then [] else alongTo R G W 66 q
    | _, _ => [])
/-- A name's rule, and the names beneath it. -/
def beneathB (k : Ky) : Int × List Ky := match picksB R G W false k with
  | [] => (0, [])
  | s :: _ => (s.sp, match G.rules[s.sp.toNat]? with
    | none => []
    | some x => partsTo R G W x s.kids s.kids.length)
/-- A branch of a tree. -/
structure Brn where
  name : Int
  rule : Int
  i : Int
  j : Int
  kids : Int
def brnOf (k : Ky) : Brn := ⟨k.name, (beneathB R G W k).1, k.i, k.j, (beneathB R G W k).2.length⟩
/-- The tree, as it is made: what is out, and what is to do, the next one first. -/
def firstGo : Nat → List Brn → List Ky → Option (List Brn)
  | 0, _, _ => none
  | n + 1, out, [] => some out
  | n + 1, out, k :: st =>
    if 4096 < (out ++ [brnOf R G W k]).length + ((beneathB R G W k).2 ++ st).length then none
    else firstGo n (out ++ [brnOf R G W k]) ((beneathB R G W k).2 ++ st)
/-- What stands beneath a key, itself first. -/
def preT : Nat → Ky → List Brn
  | 0, _ => []
  | n + 1, k => brnOf R G W k :: (beneathB R G W k).2.flatMap (preT n)
end

/-- Ranks that are a grammar's, of a text: what the picks lean on. -/
structure RkOK (R : Ky → Int) (G : Gram) (W : ByteArray) : Prop where
  lo : ∀ k, 0 ≤ R k
  span : ∀ k, 0 < R k → 0 ≤ k.i ∧ k.i ≤ k.j ∧ k.j ≤ W.size
  nm : ∀ k, 0 < R k → k.kind = 0 → 0 ≤ k.name ∧ k.name < G.names.length
  pl : ∀ k, 0 < R k → k.kind ≠ 0 → placeB G.rules k.plc.rule k.plc.conj k.plc.pos = true
  name : ∀ k, 0 < R k → k.kind = 0 → ∃ (r : Nat) (x : Rul), G.rules[r]? = some x ∧ x.head = k.name ∧ holdsK R k r x = true ∧ ∀ c, c < x.conj.length → R (ckey r c k) < R k
  fin : ∀ k, 0 < R k → k.kind ≠ 0 → symOf G k.plc = none → k.i = k.j ∧ R k = 1
  byte : ∀ k s, 0 < R k → k.kind ≠ 0 → symOf G k.plc = some s → s.name < 0 → k.i < k.j ∧ s.lo ≤ btz W k.i ∧ btz W k.i ≤ s.hi ∧ 0 < R (seqKey (onP k.plc) (k.i + 1) k.j) ∧ R (seqKey (onP k.plc) (k.i + 1) k.j) < R k
  split : ∀ k s, 0 < R k → k.kind ≠ 0 → symOf G k.plc = some s → 0 ≤ s.name → ∃ d : Nat, k.i + d ≤ k.j ∧ 0 < R (nameKey s.name k.i (k.i + d)) ∧ 0 < R (seqKey (onP k.plc) (k.i + d) k.j) ∧ R (nameKey s.name k.i (k.i + d)) < R k ∧ R (seqKey (onP k.plc) (k.i + d) k.j) < R k
end Go.Proofs.Ytbidpeggdhkahaa
