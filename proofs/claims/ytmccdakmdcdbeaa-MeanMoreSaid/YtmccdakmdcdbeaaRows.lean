/-
  No cell of these rows narrows 'for every input' (looked for: loops, veiled, ifaces, maps, wideKeys, modest, calm, conditions, laid).
  DERIVED. THE GIVEN ROWS OF THIS SEAT. 10 by the template 'for every input the law returns true; each argument reads behind the call as it read before'; 0 by the template 'total and deterministic' (their statements: YtmccdakmdcdbeaaTotals.lean).
  GIVEN WITH THE SEED: the statements are not yours to turn. If you find one false, say at which input.
  Laid BY PROGRAM, IN A SANDBOX (cutbox-rows.mjs): the forced cells as the released guide's own fill.sh prints them over the translation 352d13cc1ea5e254… (all of the seat's roots in one cut). By AI agents, Wed Nov 11 2026. No macro, syntax, notation, axiom, sorry.
-/
import Derived.Test.YtmccdakmdcdbeaaChecked
import GoSem.Claim
import GoSem.ClaimJoined
import GoSem.ClaimMapViews
import Derived.JoinedTies
import Derived.KernelRfl
namespace Go.Proofs.Ytmccdakmdcdbeaa
/- THE CELL 'sum', in the pinned program and in every row, IS THE sha256 OF THE DUMP (.gsa) THAT YtmccdakmdcdbeaaProg.lean LOADS. Nothing in Lean hashes anything: it is a label: what it is worth is what the hold of that sum in a sandbox is worth. -/
noncomputable def Try.pinned : Pinned := { name := "ytmccdakmdcdbeaa", sum := "352d13cc1ea5e254f3808558c3cfaf93c62d28460972d65b07d74527479509cd", checked := Try.checked }
namespace Rows
def none {H : Type} : Left H := { results := [], args := [] }

/-- 'templelaw11.MeanHolds': WHATEVER THE INPUT: true; the input reads as it did. -/
def meanHoldsSpec : ChangeSpec := { name := "meanHolds", fn := fun _ => fun
  | [d1, d2] => { results := [.lit (.bool true)], args := [d1, d2] }
  | _ => none }
def meanHoldsRow : OpenClaim := { program := "ytmccdakmdcdbeaa", sum := "352d13cc1ea5e254f3808558c3cfaf93c62d28460972d65b07d74527479509cd", func := "temple/templelaw11.MeanHolds", spec := "meanHolds", unfollowed := true, recurses := true, plainKeys := false, apart := false }
def MeanHoldsSaid : Prop := meanHoldsRow.holds Try.pinned (OpenSpec.ofChange meanHoldsSpec)

/-- ITS FALSE NEIGHBOUR: 'it returns false'. Refute it at one input. -/
def meanHoldsWrong : ChangeSpec := { name := "meanHolds", fn := fun _ => fun
  | [d1, d2] => { results := [.lit (.bool false)], args := [d1, d2] }
  | _ => none }
def MeanHoldsWrongFalsely : Prop := meanHoldsRow.holds Try.pinned (OpenSpec.ofChange meanHoldsWrong)

/-- 'templelaw11.MeanRanks': WHATEVER THE INPUT: true; the input reads as it did. -/
def meanRanksSpec : ChangeSpec := { name := "meanRanks", fn := fun _ => fun
  | [d1, d2] => { results := [.lit (.bool true)], args := [d1, d2] }
  | _ => none }
def meanRanksRow : OpenClaim := { program := "ytmccdakmdcdbeaa", sum := "352d13cc1ea5e254f3808558c3cfaf93c62d28460972d65b07d74527479509cd", func := "temple/templelaw11.MeanRanks", spec := "meanRanks", unfollowed := true, recurses := true, plainKeys := false, apart := false }
def MeanRanksSaid : Prop := meanRanksRow.holds Try.pinned (OpenSpec.ofChange meanRanksSpec)

/-- ITS FALSE NEIGHBOUR: 'it returns false'. Refute it at one input. -/
def meanRanksWrong : ChangeSpec := { name := "meanRanks", fn := fun _ => fun
  | [d1, d2] => { results := [.lit (.bool false)], args := [d1, d2] }
  | _ => none }
def MeanRanksWrongFalsely : Prop := meanRanksRow.holds Try.pinned (OpenSpec.ofChange meanRanksWrong)

/-- 'templelaw11.MeanSpans': WHATEVER THE INPUT: true; the input reads as it did. -/
def meanSpansSpec : ChangeSpec := { name := "meanSpans", fn := fun _ => fun
  | [d1, d2, d3, d4] => { results := [.lit (.bool true)], args := [d1, d2, d3, d4] }
  | _ => none }
def meanSpansRow : OpenClaim := { program := "ytmccdakmdcdbeaa", sum := "352d13cc1ea5e254f3808558c3cfaf93c62d28460972d65b07d74527479509cd", func := "temple/templelaw11.MeanSpans", spec := "meanSpans", unfollowed := true, recurses := true, plainKeys := false, apart := false }
def MeanSpansSaid : Prop := meanSpansRow.holds Try.pinned (OpenSpec.ofChange meanSpansSpec)

/-- ITS FALSE NEIGHBOUR: 'it returns false'. Refute it at one input. -/
def meanSpansWrong : ChangeSpec := { name := "meanSpans", fn := fun _ => fun
  | [d1, d2, d3, d4] => { results := [.lit (.bool false)], args := [d1, d2, d3, d4] }
  | _ => none }
def MeanSpansWrongFalsely : Prop := meanSpansRow.holds Try.pinned (OpenSpec.ofChange meanSpansWrong)

/-- 'templelaw11.MeanPairs': WHATEVER THE INPUT: true; the input reads as it did. -/
def meanPairsSpec : ChangeSpec := { name := "meanPairs", fn := fun _ => fun
  | [d] => { results := [.lit (.bool true)], args := [d] }
  | _ => none }
def meanPairsRow : OpenClaim := { program := "ytmccdakmdcdbeaa", sum := "352d13cc1ea5e254f3808558c3cfaf93c62d28460972d65b07d74527479509cd", func := "temple/templelaw11.MeanPairs", spec := "meanPairs", unfollowed := true, recurses := true, plainKeys := false, apart := false }
def MeanPairsSaid : Prop := meanPairsRow.holds Try.pinned (OpenSpec.ofChange meanPairsSpec)

/-- ITS FALSE NEIGHBOUR: 'it returns false'. Refute it at one input. -/
def meanPairsWrong : ChangeSpec := { name := "meanPairs", fn := fun _ => fun
  | [d] => { results := [.lit (.bool false)], args := [d] }
  | _ => none }
def MeanPairsWrongFalsely : Prop := meanPairsRow.holds Try.pinned (OpenSpec.ofChange meanPairsWrong)

/-- 'templelaw11.MeanSigns': WHATEVER THE INPUT: true; the input reads as it did. -/
def meanSignsSpec : ChangeSpec := { name := "meanSigns", fn := fun _ => fun
  | [d1, d2, d3] => { results := [.lit (.bool true)], args := [d1, d2, d3] }
  | _ => none }
def meanSignsRow : OpenClaim := { program := "ytmccdakmdcdbeaa", sum := "352d13cc1ea5e254f3808558c3cfaf93c62d28460972d65b07d74527479509cd", func := "temple/templelaw11.MeanSigns", spec := "meanSigns", unfollowed := true, recurses := true, plainKeys := false, apart := false }
def MeanSignsSaid : Prop := meanSignsRow.holds Try.pinned (OpenSpec.ofChange meanSignsSpec)

/-- ITS FALSE NEIGHBOUR: 'it returns false'. Refute it at one input. -/
def meanSignsWrong : ChangeSpec := { name := "meanSigns", fn := fun _ => fun
  | [d1, d2, d3] => { results := [.lit (.bool false)], args := [d1, d2, d3] }
  | _ => none }
def MeanSignsWrongFalsely : Prop := meanSignsRow.holds Try.pinned (OpenSpec.ofChange meanSignsWrong)

/-- 'templelaw11.MeanRows': WHATEVER THE INPUT: true; the input reads as it did. -/
def meanRowsSpec : ChangeSpec := { name := "meanRows", fn := fun _ => fun
  | [d1, d2, d3, d4] => { results := [.lit (.bool true)], args := [d1, d2, d3, d4] }
  | _ => none }
def meanRowsRow : OpenClaim := { program := "ytmccdakmdcdbeaa", sum := "352d13cc1ea5e254f3808558c3cfaf93c62d28460972d65b07d74527479509cd", func := "temple/templelaw11.MeanRows", spec := "meanRows", unfollowed := true, recurses := true, plainKeys := false, apart := false }
def MeanRowsSaid : Prop := meanRowsRow.holds Try.pinned (OpenSpec.ofChange meanRowsSpec)

/-- ITS FALSE NEIGHBOUR: 'it returns false'. Refute it at one input. -/
def meanRowsWrong : ChangeSpec := { name := "meanRows", fn := fun _ => fun
  | [d1, d2, d3, d4] => { results := [.lit (.bool false)], args := [d1, d2, d3, d4] }
  | _ => none }
def MeanRowsWrongFalsely : Prop := meanRowsRow.holds Try.pinned (OpenSpec.ofChange meanRowsWrong)

/-- 'templelaw11.MeanForms': WHATEVER THE INPUT: true; the input reads as it did. -/
def meanFormsSpec : ChangeSpec := { name := "meanForms", fn := fun _ => fun
  | [d1, d2] => { results := [.lit (.bool true)], args := [d1, d2] }
  | _ => none }
def meanFormsRow : OpenClaim := { program := "ytmccdakmdcdbeaa", sum := "352d13cc1ea5e254f3808558c3cfaf93c62d28460972d65b07d74527479509cd", func := "temple/templelaw11.MeanForms", spec := "meanForms", unfollowed := true, recurses := true, plainKeys := false, apart := false }
def MeanFormsSaid : Prop := meanFormsRow.holds Try.pinned (OpenSpec.ofChange meanFormsSpec)

/-- ITS FALSE NEIGHBOUR: 'it returns false'. Refute it at one input. -/
def meanFormsWrong : ChangeSpec := { name := "meanForms", fn := fun _ => fun
  | [d1, d2] => { results := [.lit (.bool false)], args := [d1, d2] }
  | _ => none }
def MeanFormsWrongFalsely : Prop := meanFormsRow.holds Try.pinned (OpenSpec.ofChange meanFormsWrong)

/-- 'templelaw11.MeanStretches': WHATEVER THE INPUT: true; the input reads as it did. -/
def meanStretchesSpec : ChangeSpec := { name := "meanStretches", fn := fun _ => fun
  | [d1, d2, d3, d4] => { results := [.lit (.bool true)], args := [d1, d2, d3, d4] }
  | _ => none }
def meanStretchesRow : OpenClaim := { program := "ytmccdakmdcdbeaa", sum := "352d13cc1ea5e254f3808558c3cfaf93c62d28460972d65b07d74527479509cd", func := "temple/templelaw11.MeanStretches", spec := "meanStretches", unfollowed := true, recurses := true, plainKeys := false, apart := false }
def MeanStretchesSaid : Prop := meanStretchesRow.holds Try.pinned (OpenSpec.ofChange meanStretchesSpec)

/-- ITS FALSE NEIGHBOUR: 'it returns false'. Refute it at one input. -/
def meanStretchesWrong : ChangeSpec := { name := "meanStretches", fn := fun _ => fun
  | [d1, d2, d3, d4] => { results := [.lit (.bool false)], args := [d1, d2, d3, d4] }
  | _ => none }
def MeanStretchesWrongFalsely : Prop := meanStretchesRow.holds Try.pinned (OpenSpec.ofChange meanStretchesWrong)

/-- 'templelaw11.MeanMore': WHATEVER THE INPUT: true; the input reads as it did. -/
def meanMoreSpec : ChangeSpec := { name := "meanMore", fn := fun _ => fun
  | [d1, d2, d3, d4] => { results := [.lit (.bool true)], args := [d1, d2, d3, d4] }
  | _ => none }
def meanMoreRow : OpenClaim := { program := "ytmccdakmdcdbeaa", sum := "352d13cc1ea5e254f3808558c3cfaf93c62d28460972d65b07d74527479509cd", func := "temple/templelaw11.MeanMore", spec := "meanMore", unfollowed := true, recurses := true, plainKeys := false, apart := false }
def MeanMoreSaid : Prop := meanMoreRow.holds Try.pinned (OpenSpec.ofChange meanMoreSpec)

/-- ITS FALSE NEIGHBOUR: 'it returns false'. Refute it at one input. -/
def meanMoreWrong : ChangeSpec := { name := "meanMore", fn := fun _ => fun
  | [d1, d2, d3, d4] => { results := [.lit (.bool false)], args := [d1, d2, d3, d4] }
  | _ => none }
def MeanMoreWrongFalsely : Prop := meanMoreRow.holds Try.pinned (OpenSpec.ofChange meanMoreWrong)

/-- 'templelaw11.MeanStars': WHATEVER THE INPUT: true; the input reads as it did. -/
def meanStarsSpec : ChangeSpec := { name := "meanStars", fn := fun _ => fun
  | [d1, d2, d3] => { results := [.lit (.bool true)], args := [d1, d2, d3] }
  | _ => none }
def meanStarsRow : OpenClaim := { program := "ytmccdakmdcdbeaa", sum := "352d13cc1ea5e254f3808558c3cfaf93c62d28460972d65b07d74527479509cd", func := "temple/templelaw11.MeanStars", spec := "meanStars", unfollowed := true, recurses := true, plainKeys := false, apart := false }
def MeanStarsSaid : Prop := meanStarsRow.holds Try.pinned (OpenSpec.ofChange meanStarsSpec)

/-- ITS FALSE NEIGHBOUR: 'it returns false'. Refute it at one input. -/
def meanStarsWrong : ChangeSpec := { name := "meanStars", fn := fun _ => fun
  | [d1, d2, d3] => { results := [.lit (.bool false)], args := [d1, d2, d3] }
  | _ => none }
def MeanStarsWrongFalsely : Prop := meanStarsRow.holds Try.pinned (OpenSpec.ofChange meanStarsWrong)

/- THE SECOND FORM. 'bulk': how many values and letters a reading holds, each counted each time it is reached (what is shared counts as often as it is met; a slice's spare places count too). A statement '..UptoSaid' is the law's where the arguments, and the package variables that the reading takes, are together of bulk at most 1048576: NARROWER than '..Said'. Prove '..Said' where nothing that the law and all that it calls make is longer than what came in: it says more and counts as full. Else prove '..UptoSaid'. A law counts once. -/
mutual
def uptoBulk {H : Type} : DataW H → Nat
  | .lit (.string bytes) => bytes.length + 1
  | .lit _ => 1
  | .nil => 1
  | .ptr d => uptoBulk d + 1
  | .slice elems spare => uptoBulkAll elems + uptoBulkAll spare + 1
  | .agg parts => uptoBulkAll parts + 1
  | .iface _ d => uptoBulk d + 1
  | .map entries => uptoBulkEntries entries + 1
  | .held _ => 1
def uptoBulkAll {H : Type} : List (DataW H) → Nat
  | [] => 0
  | d :: r => uptoBulk d + uptoBulkAll r
def uptoBulkEntries {H : Type} : List (Lit × DataW H) → Nat
  | [] => 0
  | x :: r => uptoBulkEntry x + uptoBulkEntries r
def uptoBulkEntry {H : Type} : Lit × DataW H → Nat
  | (.string bytes, d) => bytes.length + uptoBulk d + 1
  | (_, d) => uptoBulk d + 1
 end
def uptoSmall : (H : Type) → List (DataW H) → Bool := fun _ ds => decide (uptoBulkAll ds ≤ 1048576)
def OpenSpec.upto (s : _root_.Go.ChangeSpec) : _root_.Go.OpenSpec := { _root_.Go.OpenSpec.ofChange s with cond := some uptoSmall }

/-- 'templelaw11.MeanHolds', WHERE WHAT IT READS IS OF BULK AT MOST 1048576: true; the input reads as it did. -/
def meanHoldsUptoRow : OpenClaim := { program := "ytmccdakmdcdbeaa", sum := "352d13cc1ea5e254f3808558c3cfaf93c62d28460972d65b07d74527479509cd", func := "temple/templelaw11.MeanHolds", spec := "meanHolds", unfollowed := true, recurses := true, plainKeys := false, apart := false, narrowed := true }
def MeanHoldsUptoSaid : Prop := meanHoldsUptoRow.holds Try.pinned (OpenSpec.upto meanHoldsSpec)

/-- 'templelaw11.MeanRanks', WHERE WHAT IT READS IS OF BULK AT MOST 1048576: true; the input reads as it did. -/
def meanRanksUptoRow : OpenClaim := { program := "ytmccdakmdcdbeaa", sum := "352d13cc1ea5e254f3808558c3cfaf93c62d28460972d65b07d74527479509cd", func := "temple/templelaw11.MeanRanks", spec := "meanRanks", unfollowed := true, recurses := true, plainKeys := false, apart := false, narrowed := true }
def MeanRanksUptoSaid : Prop := meanRanksUptoRow.holds Try.pinned (OpenSpec.upto meanRanksSpec)

/-- 'templelaw11.MeanSpans', WHERE WHAT IT READS IS OF BULK AT MOST 1048576: true; the input reads as it did. -/
def meanSpansUptoRow : OpenClaim := { program := "ytmccdakmdcdbeaa", sum := "352d13cc1ea5e254f3808558c3cfaf93c62d28460972d65b07d74527479509cd", func := "temple/templelaw11.MeanSpans", spec := "meanSpans", unfollowed := true, recurses := true, plainKeys := false, apart := false, narrowed := true }
def MeanSpansUptoSaid : Prop := meanSpansUptoRow.holds Try.pinned (OpenSpec.upto meanSpansSpec)

/-- 'templelaw11.MeanPairs', WHERE WHAT IT READS IS OF BULK AT MOST 1048576: true; the input reads as it did. -/
def meanPairsUptoRow : OpenClaim := { program := "ytmccdakmdcdbeaa", sum := "352d13cc1ea5e254f3808558c3cfaf93c62d28460972d65b07d74527479509cd", func := "temple/templelaw11.MeanPairs", spec := "meanPairs", unfollowed := true, recurses := true, plainKeys := false, apart := false, narrowed := true }
def MeanPairsUptoSaid : Prop := meanPairsUptoRow.holds Try.pinned (OpenSpec.upto meanPairsSpec)

/-- 'templelaw11.MeanSigns', WHERE WHAT IT READS IS OF BULK AT MOST 1048576: true; the input reads as it did. -/
def meanSignsUptoRow : OpenClaim := { program := "ytmccdakmdcdbeaa", sum := "352d13cc1ea5e254f3808558c3cfaf93c62d28460972d65b07d74527479509cd", func := "temple/templelaw11.MeanSigns", spec := "meanSigns", unfollowed := true, recurses := true, plainKeys := false, apart := false, narrowed := true }
def MeanSignsUptoSaid : Prop := meanSignsUptoRow.holds Try.pinned (OpenSpec.upto meanSignsSpec)

/-- 'templelaw11.MeanRows', WHERE WHAT IT READS IS OF BULK AT MOST 1048576: true; the input reads as it did. -/
def meanRowsUptoRow : OpenClaim := { program := "ytmccdakmdcdbeaa", sum := "352d13cc1ea5e254f3808558c3cfaf93c62d28460972d65b07d74527479509cd", func := "temple/templelaw11.MeanRows", spec := "meanRows", unfollowed := true, recurses := true, plainKeys := false, apart := false, narrowed := true }
def MeanRowsUptoSaid : Prop := meanRowsUptoRow.holds Try.pinned (OpenSpec.upto meanRowsSpec)

/-- 'templelaw11.MeanForms', WHERE WHAT IT READS IS OF BULK AT MOST 1048576: true; the input reads as it did. -/
def meanFormsUptoRow : OpenClaim := { program := "ytmccdakmdcdbeaa", sum := "352d13cc1ea5e254f3808558c3cfaf93c62d28460972d65b07d74527479509cd", func := "temple/templelaw11.MeanForms", spec := "meanForms", unfollowed := true, recurses := true, plainKeys := false, apart := false, narrowed := true }
def MeanFormsUptoSaid : Prop := meanFormsUptoRow.holds Try.pinned (OpenSpec.upto meanFormsSpec)

/-- 'templelaw11.MeanStretches', WHERE WHAT IT READS IS OF BULK AT MOST 1048576: true; the input reads as it did. -/
def meanStretchesUptoRow : OpenClaim := { program := "ytmccdakmdcdbeaa", sum := "352d13cc1ea5e254f3808558c3cfaf93c62d28460972d65b07d74527479509cd", func := "temple/templelaw11.MeanStretches", spec := "meanStretches", unfollowed := true, recurses := true, plainKeys := false, apart := false, narrowed := true }
def MeanStretchesUptoSaid : Prop := meanStretchesUptoRow.holds Try.pinned (OpenSpec.upto meanStretchesSpec)

/-- 'templelaw11.MeanMore', WHERE WHAT IT READS IS OF BULK AT MOST 1048576: true; the input reads as it did. -/
def meanMoreUptoRow : OpenClaim := { program := "ytmccdakmdcdbeaa", sum := "352d13cc1ea5e254f3808558c3cfaf93c62d28460972d65b07d74527479509cd", func := "temple/templelaw11.MeanMore", spec := "meanMore", unfollowed := true, recurses := true, plainKeys := false, apart := false, narrowed := true }
def MeanMoreUptoSaid : Prop := meanMoreUptoRow.holds Try.pinned (OpenSpec.upto meanMoreSpec)

/-- 'templelaw11.MeanStars', WHERE WHAT IT READS IS OF BULK AT MOST 1048576: true; the input reads as it did. -/
def meanStarsUptoRow : OpenClaim := { program := "ytmccdakmdcdbeaa", sum := "352d13cc1ea5e254f3808558c3cfaf93c62d28460972d65b07d74527479509cd", func := "temple/templelaw11.MeanStars", spec := "meanStars", unfollowed := true, recurses := true, plainKeys := false, apart := false, narrowed := true }
def MeanStarsUptoSaid : Prop := meanStarsUptoRow.holds Try.pinned (OpenSpec.upto meanStarsSpec)

end Rows
end Go.Proofs.Ytmccdakmdcdbeaa
