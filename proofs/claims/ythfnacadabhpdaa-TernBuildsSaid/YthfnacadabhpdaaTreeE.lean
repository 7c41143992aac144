/- A tree is not built where there is no room. -/
import Derived.Test.YthfnacadabhpdaaTreeD
namespace Go.Proofs.Ythfnacadabhpdaa
open Go.RowKit
set_option linter.unusedVariables false
set_option linter.unusedSimpArgs false
namespace TreeE
open ModF (NewRet PutRet DropRet risesB risesB_step)
open ModA (Mq)
open TreeB TreeD
variable {F G : Nat → Prop}
end TreeE
end Go.Proofs.Ythfnacadabhpdaa
