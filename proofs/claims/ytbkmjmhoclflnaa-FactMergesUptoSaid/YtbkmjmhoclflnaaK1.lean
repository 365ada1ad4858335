/- What is known at the start: run. -/
import Derived.Test.YtbkmjmhoclflnaaFw28
import Derived.Test.YtbkmjmhoclflnaaProg
namespace Go.Proofs.Ytbkmjmhoclflnaa.Fw
open Go
set_option maxRecDepth 100000
set_option linter.unusedVariables false
def seen2 : Option (AV × Store) → Option (Bool × AObj × AObj)
  | some (.bool b, x :: y :: _) => some (b, x, y)
  | _ => none
theorem known_run2 : ∀ (o1 o2 : AObj), seen2 (xcall Try.prog (codeP Try.prog) 1000 20 8 [] [o1, o2]) = some (true, o1, o2) := by
  intros; kernel_rfl
end Go.Proofs.Ytbkmjmhoclflnaa.Fw
