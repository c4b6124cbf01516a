/-
  Walks of the laws' marks over one machine.
-/
import Derived.Test.YtnjdoedhhpkjhaaMarkTf
import Derived.Test.YtnjdoedhhpkjhaaFaceF
namespace Go.Proofs.Ytnjdoedhhpkjhaa
open Go.RowKit Go.ChangeShapes Go.WideShapes
set_option linter.unusedVariables false
attribute [local go_sem ↓] Go.wp_at_zero Go.wp_at_succ

end Go.Proofs.Ytnjdoedhhpkjhaa
