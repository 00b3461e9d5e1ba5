/-
  No cell of these rows narrows 'for every input' (looked for: loops, veiled, ifaces, maps, wideKeys, modest, calm, conditions, laid).
  DERIVED. THE GIVEN ROWS OF THIS SEAT. 3 by the template 'for every input the law returns true; each argument reads behind the call as it read before'; 0 by the template 'total and deterministic' (their statements: YtbidpeggdhkahaaGreatTotals.lean).
  GIVEN WITH THE SEED: the statements are not yours to turn. If you find one false, say at which input.
  Laid BY PROGRAM, IN A SANDBOX (cutbox-rows.mjs): the forced cells as the released guide's own fill.sh prints them over the translation 71e39a6882b2daf5… (all of the seat's roots in one cut). By AI agents, Wed Nov 11 2026. No macro, syntax, notation, axiom, sorry.
-/
import Derived.Test.YtbidpeggdhkahaaGreatChecked
import GoSem.Claim
import GoSem.ClaimJoined
import GoSem.ClaimMapViews
import Derived.JoinedTies
import Derived.KernelRfl
namespace Go.Proofs.YtbidpeggdhkahaaGreat
/- THE CELL 'sum', in the pinned program and in every row, IS THE sha256 OF THE DUMP (.gsa) THAT YtbidpeggdhkahaaGreatProg.lean LOADS. Nothing in Lean hashes anything: it is a label: what it is worth is what the hold of that sum in a sandbox is worth. -/
noncomputable def Tryz.pinned : Pinned := { name := "ytbidpeggdhkahaagreat", sum := "71e39a6882b2daf5bd437bc43e107d6bf091407bd9cc6f4e87c6084cbebc80e2", checked := Tryz.checked }
namespace Rows
def none {H : Type} : Left H := { results := [], args := [] }

/-- 'templelaw22.Trees': WHATEVER THE INPUT: true; the input reads as it did. -/
def treesSpec : ChangeSpec := { name := "trees", fn := fun _ => fun
  | [d1, d2] => { results := [.lit (.bool true)], args := [d1, d2] }
  | _ => none }
def treesRow : OpenClaim := { program := "ytbidpeggdhkahaagreat", sum := "71e39a6882b2daf5bd437bc43e107d6bf091407bd9cc6f4e87c6084cbebc80e2", func := "temple/templelaw22.Trees", spec := "trees", unfollowed := true, recurses := true, plainKeys := false, apart := false }
def TreesSaid : Prop := treesRow.holds Tryz.pinned (OpenSpec.ofChange treesSpec)

/-- ITS FALSE NEIGHBOUR: 'it returns false'. Refute it at one input. -/
def treesWrong : ChangeSpec := { name := "trees", fn := fun _ => fun
  | [d1, d2] => { results := [.lit (.bool false)], args := [d1, d2] }
  | _ => none }
def TreesWrongFalsely : Prop := treesRow.holds Tryz.pinned (OpenSpec.ofChange treesWrong)

/-- 'templelaw22.TreeLies': WHATEVER THE INPUT: true; the input reads as it did. -/
def treeLiesSpec : ChangeSpec := { name := "treeLies", fn := fun _ => fun
  | [d1, d2] => { results := [.lit (.bool true)], args := [d1, d2] }
  | _ => none }
def treeLiesRow : OpenClaim := { program := "ytbidpeggdhkahaagreat", sum := "71e39a6882b2daf5bd437bc43e107d6bf091407bd9cc6f4e87c6084cbebc80e2", func := "temple/templelaw22.TreeLies", spec := "treeLies", unfollowed := true, recurses := true, plainKeys := false, apart := false }
def TreeLiesSaid : Prop := treeLiesRow.holds Tryz.pinned (OpenSpec.ofChange treeLiesSpec)

/-- ITS FALSE NEIGHBOUR: 'it returns false'. Refute it at one input. -/
def treeLiesWrong : ChangeSpec := { name := "treeLies", fn := fun _ => fun
  | [d1, d2] => { results := [.lit (.bool false)], args := [d1, d2] }
  | _ => none }
def TreeLiesWrongFalsely : Prop := treeLiesRow.holds Tryz.pinned (OpenSpec.ofChange treeLiesWrong)

/-- 'templelaw22.TreeNone': WHATEVER THE INPUT: true; the input reads as it did. -/
def treeNoneSpec : ChangeSpec := { name := "treeNone", fn := fun _ => fun
  | [d1, d2] => { results := [.lit (.bool true)], args := [d1, d2] }
  | _ => none }
def treeNoneRow : OpenClaim := { program := "ytbidpeggdhkahaagreat", sum := "71e39a6882b2daf5bd437bc43e107d6bf091407bd9cc6f4e87c6084cbebc80e2", func := "temple/templelaw22.TreeNone", spec := "treeNone", unfollowed := true, recurses := true, plainKeys := false, apart := false }
def TreeNoneSaid : Prop := treeNoneRow.holds Tryz.pinned (OpenSpec.ofChange treeNoneSpec)

/-- ITS FALSE NEIGHBOUR: 'it returns false'. Refute it at one input. -/
def treeNoneWrong : ChangeSpec := { name := "treeNone", fn := fun _ => fun
  | [d1, d2] => { results := [.lit (.bool false)], args := [d1, d2] }
  | _ => none }
def TreeNoneWrongFalsely : Prop := treeNoneRow.holds Tryz.pinned (OpenSpec.ofChange treeNoneWrong)

/- THE SECOND FORM. 'bulk': how many values and letters a reading holds, each counted each time it is reached (what is shared counts as often as it is met; a slice's spare places count too). A statement '..UptoSaid' is the law's where the arguments, and the package variables that the reading takes, are together of bulk at most 1048576: NARROWER than '..Said'. Prove '..Said' where nothing that the law and all that it calls make is longer than what came in: it says more and counts as full. Else prove '..UptoSaid'. A law counts once. -/
mutual
def uptoBulk {H : Type} : DataW H → Nat
  | .lit (.string bytes) => bytes.length + 1
  | .lit _ => 1
  | .nil => 1
  | .ptr d => uptoBulk d + 1
  | .slice elems spare => uptoBulkAll elems + uptoBulkAll spare + 1
  | .agg parts => uptoBulkAll parts + 1
  | .iface _ d => uptoBulk d + 1
  | .map entries => uptoBulkEntries entries + 1
  | .held _ => 1
def uptoBulkAll {H : Type} : List (DataW H) → Nat
  | [] => 0
  | d :: r => uptoBulk d + uptoBulkAll r
def uptoBulkEntries {H : Type} : List (Lit × DataW H) → Nat
  | [] => 0
  | x :: r => uptoBulkEntry x + uptoBulkEntries r
def uptoBulkEntry {H : Type} : Lit × DataW H → Nat
  | (.string bytes, d) => bytes.length + uptoBulk d + 1
  | (_, d) => uptoBulk d + 1
 end
def uptoSmall : (H : Type) → List (DataW H) → Bool := fun _ ds => decide (uptoBulkAll ds ≤ 1048576)
def OpenSpec.upto (s : _root_.Go.ChangeSpec) : _root_.Go.OpenSpec := { _root_.Go.OpenSpec.ofChange s with cond := some uptoSmall }

/-- 'templelaw22.Trees', WHERE WHAT IT READS IS OF BULK AT MOST 1048576: true; the input reads as it did. -/
def treesUptoRow : OpenClaim := { program := "ytbidpeggdhkahaagreat", sum := "71e39a6882b2daf5bd437bc43e107d6bf091407bd9cc6f4e87c6084cbebc80e2", func := "temple/templelaw22.Trees", spec := "trees", unfollowed := true, recurses := true, plainKeys := false, apart := false, narrowed := true }
def TreesUptoSaid : Prop := treesUptoRow.holds Tryz.pinned (OpenSpec.upto treesSpec)

/-- 'templelaw22.TreeLies', WHERE WHAT IT READS IS OF BULK AT MOST 1048576: true; the input reads as it did. -/
def treeLiesUptoRow : OpenClaim := { program := "ytbidpeggdhkahaagreat", sum := "71e39a6882b2daf5bd437bc43e107d6bf091407bd9cc6f4e87c6084cbebc80e2", func := "temple/templelaw22.TreeLies", spec := "treeLies", unfollowed := true, recurses := true, plainKeys := false, apart := false, narrowed := true }
def TreeLiesUptoSaid : Prop := treeLiesUptoRow.holds Tryz.pinned (OpenSpec.upto treeLiesSpec)

/-- 'templelaw22.TreeNone', WHERE WHAT IT READS IS OF BULK AT MOST 1048576: true; the input reads as it did. -/
def treeNoneUptoRow : OpenClaim := { program := "ytbidpeggdhkahaagreat", sum := "71e39a6882b2daf5bd437bc43e107d6bf091407bd9cc6f4e87c6084cbebc80e2", func := "temple/templelaw22.TreeNone", spec := "treeNone", unfollowed := true, recurses := true, plainKeys := false, apart := false, narrowed := true }
def TreeNoneUptoSaid : Prop := treeNoneUptoRow.holds Tryz.pinned (OpenSpec.upto treeNoneSpec)

end Rows
end Go.Proofs.YtbidpeggdhkahaaGreat
