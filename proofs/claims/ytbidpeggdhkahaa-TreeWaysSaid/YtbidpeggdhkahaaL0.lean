/-
  L0: what a law's frame imports.
-/
import Derived.Test.YtbidpeggdhkahaaA1
import Derived.Test.YtbidpeggdhkahaaRows
import Derived.WalkKit
import Derived.ProofKit
import Derived.OpenShut
import Derived.ShutString
import Derived.ChangeOld
import Derived.Below
import Derived.SizedLaws
import Derived.Deep.Slices
import Derived.Deep.Strs
import Derived.ChangeSame
set_option linter.unusedSimpArgs false
set_option linter.unusedVariables false
namespace Go.Proofs.Ytbidpeggdhkahaa
theorem l0_here : True := trivial
end Go.Proofs.Ytbidpeggdhkahaa
