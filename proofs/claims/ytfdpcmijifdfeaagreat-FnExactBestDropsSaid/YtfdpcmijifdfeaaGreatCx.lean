/- The contracts of the functions that the executor doesn't go through by itself. No condition. -/
import Derived.Test.YtfdpcmijifdfeaaGreatAbs
import Derived.Test.YtfdpcmijifdfeaaGreatSxLaw
namespace Go.Proofs.YtfdpcmijifdfeaaGreat.Leaf
open Go.Sx
set_option linter.unusedVariables false
set_option linter.unusedSimpArgs false
set_option maxRecDepth 100000

def nonfinS : Sum := sumS [.float .f32] .bool fun ts => mkNot (mkOp (.ffin .f32) (ts.headD .nil) .nil)
def finS : Sum := sumS [.float .f32] .bool fun ts => mkOp (.ffin .f32) (ts.headD .nil) .nil
end Go.Proofs.YtfdpcmijifdfeaaGreat.Leaf
