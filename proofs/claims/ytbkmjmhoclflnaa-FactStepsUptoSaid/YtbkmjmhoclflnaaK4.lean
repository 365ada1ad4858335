/- What is known at the start: run. -/
import Derived.Test.YtbkmjmhoclflnaaFw28
import Derived.Test.YtbkmjmhoclflnaaProg
namespace Go.Proofs.Ytbkmjmhoclflnaa.Fw
open Go
set_option maxRecDepth 100000
set_option linter.unusedVariables false
def seen0 : Option (AV × Store) → Option Bool
  | some (.bool b, _) => some b
  | _ => none
theorem known_run0 : seen0 (xcall Try.prog (codeP Try.prog) 1000 20 8 [] []) = some true := by kernel_rfl
end Go.Proofs.Ytbkmjmhoclflnaa.Fw
