/-
  No cell of these rows narrows 'for every input' (looked for: loops, veiled, ifaces, maps, wideKeys, modest, calm, conditions, laid).
  DERIVED. THE GIVEN ROWS OF THIS SEAT. 6 by the template 'for every input the law returns true; each argument reads behind the call as it read before'; 0 by the template 'total and deterministic' (their statements: YtfmfoiecphhhiaaGreatTotals.lean).
  GIVEN WITH THE SEED: the statements are not yours to turn. If you find one false, say at which input.
  Laid BY PROGRAM, IN A SANDBOX (cutbox-rows.mjs): the forced cells as the released guide's own fill.sh prints them over the translation 21162795636d673e… (all of the seat's roots in one cut). By AI agents, Wed Nov 11 2026. No macro, syntax, notation, axiom, sorry.
-/
import Derived.Test.YtfmfoiecphhhiaaGreatChecked
import GoSem.Claim
import GoSem.ClaimJoined
import GoSem.ClaimMapViews
import Derived.JoinedTies
import Derived.KernelRfl
namespace Go.Proofs.YtfmfoiecphhhiaaGreat
/- THE CELL 'sum', in the pinned program and in every row, IS THE sha256 OF THE DUMP (.gsa) THAT YtfmfoiecphhhiaaGreatProg.lean LOADS. Nothing in Lean hashes anything: it is a label: what it is worth is what the hold of that sum in a sandbox is worth. -/
noncomputable def Tryz.pinned : Pinned := { name := "ytfmfoiecphhhiaagreat", sum := "21162795636d673effb2b9b54beded88a738c88218a891a47862bccb8ffb70e6", checked := Tryz.checked }
namespace Rows
def none {H : Type} : Left H := { results := [], args := [] }

/-- 'templelaw19.Checks': WHATEVER THE INPUT: true; the input reads as it did. -/
def checksSpec : ChangeSpec := { name := "checks", fn := fun _ => fun
  | [d1, d2, d3] => { results := [.lit (.bool true)], args := [d1, d2, d3] }
  | _ => none }
def checksRow : OpenClaim := { program := "ytfmfoiecphhhiaagreat", sum := "21162795636d673effb2b9b54beded88a738c88218a891a47862bccb8ffb70e6", func := "temple/templelaw19.Checks", spec := "checks", unfollowed := true, recurses := true, plainKeys := false, apart := false }
def ChecksSaid : Prop := checksRow.holds Tryz.pinned (OpenSpec.ofChange checksSpec)

/-- ITS FALSE NEIGHBOUR: 'it returns false'. Refute it at one input. -/
def checksWrong : ChangeSpec := { name := "checks", fn := fun _ => fun
  | [d1, d2, d3] => { results := [.lit (.bool false)], args := [d1, d2, d3] }
  | _ => none }
def ChecksWrongFalsely : Prop := checksRow.holds Tryz.pinned (OpenSpec.ofChange checksWrong)

/-- 'templelaw19.CheckTrue': WHATEVER THE INPUT: true; the input reads as it did. -/
def checkTrueSpec : ChangeSpec := { name := "checkTrue", fn := fun _ => fun
  | [d1, d2, d3] => { results := [.lit (.bool true)], args := [d1, d2, d3] }
  | _ => none }
def checkTrueRow : OpenClaim := { program := "ytfmfoiecphhhiaagreat", sum := "21162795636d673effb2b9b54beded88a738c88218a891a47862bccb8ffb70e6", func := "temple/templelaw19.CheckTrue", spec := "checkTrue", unfollowed := true, recurses := true, plainKeys := false, apart := false }
def CheckTrueSaid : Prop := checkTrueRow.holds Tryz.pinned (OpenSpec.ofChange checkTrueSpec)

/-- ITS FALSE NEIGHBOUR: 'it returns false'. Refute it at one input. -/
def checkTrueWrong : ChangeSpec := { name := "checkTrue", fn := fun _ => fun
  | [d1, d2, d3] => { results := [.lit (.bool false)], args := [d1, d2, d3] }
  | _ => none }
def CheckTrueWrongFalsely : Prop := checkTrueRow.holds Tryz.pinned (OpenSpec.ofChange checkTrueWrong)

/-- 'templelaw19.CheckTurned': WHATEVER THE INPUT: true; the input reads as it did. -/
def checkTurnedSpec : ChangeSpec := { name := "checkTurned", fn := fun _ => fun
  | [d1, d2, d3, d4, d5, d6] => { results := [.lit (.bool true)], args := [d1, d2, d3, d4, d5, d6] }
  | _ => none }
def checkTurnedRow : OpenClaim := { program := "ytfmfoiecphhhiaagreat", sum := "21162795636d673effb2b9b54beded88a738c88218a891a47862bccb8ffb70e6", func := "temple/templelaw19.CheckTurned", spec := "checkTurned", unfollowed := true, recurses := true, plainKeys := false, apart := false }
def CheckTurnedSaid : Prop := checkTurnedRow.holds Tryz.pinned (OpenSpec.ofChange checkTurnedSpec)

/-- ITS FALSE NEIGHBOUR: 'it returns false'. Refute it at one input. -/
def checkTurnedWrong : ChangeSpec := { name := "checkTurned", fn := fun _ => fun
  | [d1, d2, d3, d4, d5, d6] => { results := [.lit (.bool false)], args := [d1, d2, d3, d4, d5, d6] }
  | _ => none }
def CheckTurnedWrongFalsely : Prop := checkTurnedRow.holds Tryz.pinned (OpenSpec.ofChange checkTurnedWrong)

/-- 'templelaw19.CheckOthers': WHATEVER THE INPUT: true; the input reads as it did. -/
def checkOthersSpec : ChangeSpec := { name := "checkOthers", fn := fun _ => fun
  | [d1, d2, d3, d4] => { results := [.lit (.bool true)], args := [d1, d2, d3, d4] }
  | _ => none }
def checkOthersRow : OpenClaim := { program := "ytfmfoiecphhhiaagreat", sum := "21162795636d673effb2b9b54beded88a738c88218a891a47862bccb8ffb70e6", func := "temple/templelaw19.CheckOthers", spec := "checkOthers", unfollowed := true, recurses := true, plainKeys := false, apart := false }
def CheckOthersSaid : Prop := checkOthersRow.holds Tryz.pinned (OpenSpec.ofChange checkOthersSpec)

/-- ITS FALSE NEIGHBOUR: 'it returns false'. Refute it at one input. -/
def checkOthersWrong : ChangeSpec := { name := "checkOthers", fn := fun _ => fun
  | [d1, d2, d3, d4] => { results := [.lit (.bool false)], args := [d1, d2, d3, d4] }
  | _ => none }
def CheckOthersWrongFalsely : Prop := checkOthersRow.holds Tryz.pinned (OpenSpec.ofChange checkOthersWrong)

/-- 'templelaw19.CheckRows': WHATEVER THE INPUT: true; the input reads as it did. -/
def checkRowsSpec : ChangeSpec := { name := "checkRows", fn := fun _ => fun
  | [d1, d2, d3, d4] => { results := [.lit (.bool true)], args := [d1, d2, d3, d4] }
  | _ => none }
def checkRowsRow : OpenClaim := { program := "ytfmfoiecphhhiaagreat", sum := "21162795636d673effb2b9b54beded88a738c88218a891a47862bccb8ffb70e6", func := "temple/templelaw19.CheckRows", spec := "checkRows", unfollowed := true, recurses := true, plainKeys := false, apart := false }
def CheckRowsSaid : Prop := checkRowsRow.holds Tryz.pinned (OpenSpec.ofChange checkRowsSpec)

/-- ITS FALSE NEIGHBOUR: 'it returns false'. Refute it at one input. -/
def checkRowsWrong : ChangeSpec := { name := "checkRows", fn := fun _ => fun
  | [d1, d2, d3, d4] => { results := [.lit (.bool false)], args := [d1, d2, d3, d4] }
  | _ => none }
def CheckRowsWrongFalsely : Prop := checkRowsRow.holds Tryz.pinned (OpenSpec.ofChange checkRowsWrong)

/-- 'templelaw19.CheckRanks': WHATEVER THE INPUT: true; the input reads as it did. -/
def checkRanksSpec : ChangeSpec := { name := "checkRanks", fn := fun _ => fun
  | [d1, d2, d3] => { results := [.lit (.bool true)], args := [d1, d2, d3] }
  | _ => none }
def checkRanksRow : OpenClaim := { program := "ytfmfoiecphhhiaagreat", sum := "21162795636d673effb2b9b54beded88a738c88218a891a47862bccb8ffb70e6", func := "temple/templelaw19.CheckRanks", spec := "checkRanks", unfollowed := true, recurses := true, plainKeys := false, apart := false }
def CheckRanksSaid : Prop := checkRanksRow.holds Tryz.pinned (OpenSpec.ofChange checkRanksSpec)

/-- ITS FALSE NEIGHBOUR: 'it returns false'. Refute it at one input. -/
def checkRanksWrong : ChangeSpec := { name := "checkRanks", fn := fun _ => fun
  | [d1, d2, d3] => { results := [.lit (.bool false)], args := [d1, d2, d3] }
  | _ => none }
def CheckRanksWrongFalsely : Prop := checkRanksRow.holds Tryz.pinned (OpenSpec.ofChange checkRanksWrong)

/- THE SECOND FORM. 'bulk': how many values and letters a reading holds, each counted each time it is reached (what is shared counts as often as it is met; a slice's spare places count too). A statement '..UptoSaid' is the law's where the arguments, and the package variables that the reading takes, are together of bulk at most 1048576: NARROWER than '..Said'. Prove '..Said' where nothing that the law and all that it calls make is longer than what came in: it says more and counts as full. Else prove '..UptoSaid'. A law counts once. -/
mutual
def uptoBulk {H : Type} : DataW H → Nat
  | .lit (.string bytes) => bytes.length + 1
  | .lit _ => 1
  | .nil => 1
  | .ptr d => uptoBulk d + 1
  | .slice elems spare => uptoBulkAll elems + uptoBulkAll spare + 1
  | .agg parts => uptoBulkAll parts + 1
  | .iface _ d => uptoBulk d + 1
  | .map entries => uptoBulkEntries entries + 1
  | .held _ => 1
def uptoBulkAll {H : Type} : List (DataW H) → Nat
  | [] => 0
  | d :: r => uptoBulk d + uptoBulkAll r
def uptoBulkEntries {H : Type} : List (Lit × DataW H) → Nat
  | [] => 0
  | x :: r => uptoBulkEntry x + uptoBulkEntries r
def uptoBulkEntry {H : Type} : Lit × DataW H → Nat
  | (.string bytes, d) => bytes.length + uptoBulk d + 1
  | (_, d) => uptoBulk d + 1
 end
def uptoSmall : (H : Type) → List (DataW H) → Bool := fun _ ds => decide (uptoBulkAll ds ≤ 1048576)
def OpenSpec.upto (s : _root_.Go.ChangeSpec) : _root_.Go.OpenSpec := { _root_.Go.OpenSpec.ofChange s with cond := some uptoSmall }

/-- 'templelaw19.Checks', WHERE WHAT IT READS IS OF BULK AT MOST 1048576: true; the input reads as it did. -/
def checksUptoRow : OpenClaim := { program := "ytfmfoiecphhhiaagreat", sum := "21162795636d673effb2b9b54beded88a738c88218a891a47862bccb8ffb70e6", func := "temple/templelaw19.Checks", spec := "checks", unfollowed := true, recurses := true, plainKeys := false, apart := false, narrowed := true }
def ChecksUptoSaid : Prop := checksUptoRow.holds Tryz.pinned (OpenSpec.upto checksSpec)

/-- 'templelaw19.CheckTrue', WHERE WHAT IT READS IS OF BULK AT MOST 1048576: true; the input reads as it did. -/
def checkTrueUptoRow : OpenClaim := { program := "ytfmfoiecphhhiaagreat", sum := "21162795636d673effb2b9b54beded88a738c88218a891a47862bccb8ffb70e6", func := "temple/templelaw19.CheckTrue", spec := "checkTrue", unfollowed := true, recurses := true, plainKeys := false, apart := false, narrowed := true }
def CheckTrueUptoSaid : Prop := checkTrueUptoRow.holds Tryz.pinned (OpenSpec.upto checkTrueSpec)

/-- 'templelaw19.CheckTurned', WHERE WHAT IT READS IS OF BULK AT MOST 1048576: true; the input reads as it did. -/
def checkTurnedUptoRow : OpenClaim := { program := "ytfmfoiecphhhiaagreat", sum := "21162795636d673effb2b9b54beded88a738c88218a891a47862bccb8ffb70e6", func := "temple/templelaw19.CheckTurned", spec := "checkTurned", unfollowed := true, recurses := true, plainKeys := false, apart := false, narrowed := true }
def CheckTurnedUptoSaid : Prop := checkTurnedUptoRow.holds Tryz.pinned (OpenSpec.upto checkTurnedSpec)

/-- 'templelaw19.CheckOthers', WHERE WHAT IT READS IS OF BULK AT MOST 1048576: true; the input reads as it did. -/
def checkOthersUptoRow : OpenClaim := { program := "ytfmfoiecphhhiaagreat", sum := "21162795636d673effb2b9b54beded88a738c88218a891a47862bccb8ffb70e6", func := "temple/templelaw19.CheckOthers", spec := "checkOthers", unfollowed := true, recurses := true, plainKeys := false, apart := false, narrowed := true }
def CheckOthersUptoSaid : Prop := checkOthersUptoRow.holds Tryz.pinned (OpenSpec.upto checkOthersSpec)

/-- 'templelaw19.CheckRows', WHERE WHAT IT READS IS OF BULK AT MOST 1048576: true; the input reads as it did. -/
def checkRowsUptoRow : OpenClaim := { program := "ytfmfoiecphhhiaagreat", sum := "21162795636d673effb2b9b54beded88a738c88218a891a47862bccb8ffb70e6", func := "temple/templelaw19.CheckRows", spec := "checkRows", unfollowed := true, recurses := true, plainKeys := false, apart := false, narrowed := true }
def CheckRowsUptoSaid : Prop := checkRowsUptoRow.holds Tryz.pinned (OpenSpec.upto checkRowsSpec)

/-- 'templelaw19.CheckRanks', WHERE WHAT IT READS IS OF BULK AT MOST 1048576: true; the input reads as it did. -/
def checkRanksUptoRow : OpenClaim := { program := "ytfmfoiecphhhiaagreat", sum := "21162795636d673effb2b9b54beded88a738c88218a891a47862bccb8ffb70e6", func := "temple/templelaw19.CheckRanks", spec := "checkRanks", unfollowed := true, recurses := true, plainKeys := false, apart := false, narrowed := true }
def CheckRanksUptoSaid : Prop := checkRanksUptoRow.holds Tryz.pinned (OpenSpec.upto checkRanksSpec)

end Rows
end Go.Proofs.YtfmfoiecphhhiaaGreat
