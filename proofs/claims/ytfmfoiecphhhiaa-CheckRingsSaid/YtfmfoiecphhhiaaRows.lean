/-
  No cell of these rows narrows 'for every input' (looked for: loops, veiled, ifaces, maps, wideKeys, modest, calm, conditions, laid).
  DERIVED. THE GIVEN ROWS OF THIS SEAT. 3 by the template 'for every input the law returns true; each argument reads behind the call as it read before'; 0 by the template 'total and deterministic' (their statements: YtfmfoiecphhhiaaTotals.lean).
  GIVEN WITH THE SEED: the statements are not yours to turn. If you find one false, say at which input.
  Laid BY PROGRAM, IN A SANDBOX (cutbox-rows.mjs): the forced cells as the released guide's own fill.sh prints them over the translation cd2ed9057fcc7623… (all of the seat's roots in one cut). By AI agents, Wed Nov 11 2026. No macro, syntax, notation, axiom, sorry.
-/
import Derived.Test.YtfmfoiecphhhiaaChecked
import GoSem.Claim
import GoSem.ClaimJoined
import GoSem.ClaimMapViews
import Derived.JoinedTies
import Derived.KernelRfl
namespace Go.Proofs.Ytfmfoiecphhhiaa
/- THE CELL 'sum', in the pinned program and in every row, IS THE sha256 OF THE DUMP (.gsa) THAT YtfmfoiecphhhiaaProg.lean LOADS. Nothing in Lean hashes anything: it is a label: what it is worth is what the hold of that sum in a sandbox is worth. -/
noncomputable def Try.pinned : Pinned := { name := "ytfmfoiecphhhiaa", sum := "cd2ed9057fcc7623f92a9abc5f5a39fa8b667d00c1971afd7d6d8b5d7f1f4b21", checked := Try.checked }
namespace Rows
def none {H : Type} : Left H := { results := [], args := [] }

/-- 'templelaw19.CheckForms': WHATEVER THE INPUT: true; the input reads as it did. -/
def checkFormsSpec : ChangeSpec := { name := "checkForms", fn := fun _ => fun
  | [d1, d2] => { results := [.lit (.bool true)], args := [d1, d2] }
  | _ => none }
def checkFormsRow : OpenClaim := { program := "ytfmfoiecphhhiaa", sum := "cd2ed9057fcc7623f92a9abc5f5a39fa8b667d00c1971afd7d6d8b5d7f1f4b21", func := "temple/templelaw19.CheckForms", spec := "checkForms", unfollowed := true, recurses := true, plainKeys := false, apart := false }
def CheckFormsSaid : Prop := checkFormsRow.holds Try.pinned (OpenSpec.ofChange checkFormsSpec)

/-- ITS FALSE NEIGHBOUR: 'it returns false'. Refute it at one input. -/
def checkFormsWrong : ChangeSpec := { name := "checkForms", fn := fun _ => fun
  | [d1, d2] => { results := [.lit (.bool false)], args := [d1, d2] }
  | _ => none }
def CheckFormsWrongFalsely : Prop := checkFormsRow.holds Try.pinned (OpenSpec.ofChange checkFormsWrong)

/-- 'templelaw19.CheckBytes': WHATEVER THE INPUT: true; the input reads as it did. -/
def checkBytesSpec : ChangeSpec := { name := "checkBytes", fn := fun _ => fun
  | [d1, d2, d3] => { results := [.lit (.bool true)], args := [d1, d2, d3] }
  | _ => none }
def checkBytesRow : OpenClaim := { program := "ytfmfoiecphhhiaa", sum := "cd2ed9057fcc7623f92a9abc5f5a39fa8b667d00c1971afd7d6d8b5d7f1f4b21", func := "temple/templelaw19.CheckBytes", spec := "checkBytes", unfollowed := true, recurses := true, plainKeys := false, apart := false }
def CheckBytesSaid : Prop := checkBytesRow.holds Try.pinned (OpenSpec.ofChange checkBytesSpec)

/-- ITS FALSE NEIGHBOUR: 'it returns false'. Refute it at one input. -/
def checkBytesWrong : ChangeSpec := { name := "checkBytes", fn := fun _ => fun
  | [d1, d2, d3] => { results := [.lit (.bool false)], args := [d1, d2, d3] }
  | _ => none }
def CheckBytesWrongFalsely : Prop := checkBytesRow.holds Try.pinned (OpenSpec.ofChange checkBytesWrong)

/-- 'templelaw19.CheckRings': WHATEVER THE INPUT: true; the input reads as it did. -/
def checkRingsSpec : ChangeSpec := { name := "checkRings", fn := fun _ => fun
  | [d1, d2] => { results := [.lit (.bool true)], args := [d1, d2] }
  | _ => none }
def checkRingsRow : OpenClaim := { program := "ytfmfoiecphhhiaa", sum := "cd2ed9057fcc7623f92a9abc5f5a39fa8b667d00c1971afd7d6d8b5d7f1f4b21", func := "temple/templelaw19.CheckRings", spec := "checkRings", unfollowed := true, recurses := true, plainKeys := false, apart := false }
def CheckRingsSaid : Prop := checkRingsRow.holds Try.pinned (OpenSpec.ofChange checkRingsSpec)

/-- ITS FALSE NEIGHBOUR: 'it returns false'. Refute it at one input. -/
def checkRingsWrong : ChangeSpec := { name := "checkRings", fn := fun _ => fun
  | [d1, d2] => { results := [.lit (.bool false)], args := [d1, d2] }
  | _ => none }
def CheckRingsWrongFalsely : Prop := checkRingsRow.holds Try.pinned (OpenSpec.ofChange checkRingsWrong)

/- THE SECOND FORM. 'bulk': how many values and letters a reading holds, each counted each time it is reached (what is shared counts as often as it is met; a slice's spare places count too). A statement '..UptoSaid' is the law's where the arguments, and the package variables that the reading takes, are together of bulk at most 1048576: NARROWER than '..Said'. Prove '..Said' where nothing that the law and all that it calls make is longer than what came in: it says more and counts as full. Else prove '..UptoSaid'. A law counts once. -/
mutual
def uptoBulk {H : Type} : DataW H → Nat
  | .lit (.string bytes) => bytes.length + 1
  | .lit _ => 1
  | .nil => 1
  | .ptr d => uptoBulk d + 1
  | .slice elems spare => uptoBulkAll elems + uptoBulkAll spare + 1
  | .agg parts => uptoBulkAll parts + 1
  | .iface _ d => uptoBulk d + 1
  | .map entries => uptoBulkEntries entries + 1
  | .held _ => 1
def uptoBulkAll {H : Type} : List (DataW H) → Nat
  | [] => 0
  | d :: r => uptoBulk d + uptoBulkAll r
def uptoBulkEntries {H : Type} : List (Lit × DataW H) → Nat
  | [] => 0
  | x :: r => uptoBulkEntry x + uptoBulkEntries r
def uptoBulkEntry {H : Type} : Lit × DataW H → Nat
  | (.string bytes, d) => bytes.length + uptoBulk d + 1
  | (_, d) => uptoBulk d + 1
 end
def uptoSmall : (H : Type) → List (DataW H) → Bool := fun _ ds => decide (uptoBulkAll ds ≤ 1048576)
def OpenSpec.upto (s : _root_.Go.ChangeSpec) : _root_.Go.OpenSpec := { _root_.Go.OpenSpec.ofChange s with cond := some uptoSmall }

/-- 'templelaw19.CheckForms', WHERE WHAT IT READS IS OF BULK AT MOST 1048576: true; the input reads as it did. -/
def checkFormsUptoRow : OpenClaim := { program := "ytfmfoiecphhhiaa", sum := "cd2ed9057fcc7623f92a9abc5f5a39fa8b667d00c1971afd7d6d8b5d7f1f4b21", func := "temple/templelaw19.CheckForms", spec := "checkForms", unfollowed := true, recurses := true, plainKeys := false, apart := false, narrowed := true }
def CheckFormsUptoSaid : Prop := checkFormsUptoRow.holds Try.pinned (OpenSpec.upto checkFormsSpec)

/-- 'templelaw19.CheckBytes', WHERE WHAT IT READS IS OF BULK AT MOST 1048576: true; the input reads as it did. -/
def checkBytesUptoRow : OpenClaim := { program := "ytfmfoiecphhhiaa", sum := "cd2ed9057fcc7623f92a9abc5f5a39fa8b667d00c1971afd7d6d8b5d7f1f4b21", func := "temple/templelaw19.CheckBytes", spec := "checkBytes", unfollowed := true, recurses := true, plainKeys := false, apart := false, narrowed := true }
def CheckBytesUptoSaid : Prop := checkBytesUptoRow.holds Try.pinned (OpenSpec.upto checkBytesSpec)

/-- 'templelaw19.CheckRings', WHERE WHAT IT READS IS OF BULK AT MOST 1048576: true; the input reads as it did. -/
def checkRingsUptoRow : OpenClaim := { program := "ytfmfoiecphhhiaa", sum := "cd2ed9057fcc7623f92a9abc5f5a39fa8b667d00c1971afd7d6d8b5d7f1f4b21", func := "temple/templelaw19.CheckRings", spec := "checkRings", unfollowed := true, recurses := true, plainKeys := false, apart := false, narrowed := true }
def CheckRingsUptoSaid : Prop := checkRingsUptoRow.holds Try.pinned (OpenSpec.upto checkRingsSpec)

end Rows
end Go.Proofs.Ytfmfoiecphhhiaa
