/- Ways of the worst light's law: the tree that the executor reckons is true at each leaf. No condition. -/
import Derived.Test.YtamljpeicecbjaaRows
import Derived.Test.YtamljpeicecbjaaWl
import Derived.Test.YtamljpeicecbjaaDoor
import Derived.WalkKit
import Derived.ProofKit
namespace Go.Proofs.Ytamljpeicecbjaa.fnExactWorstLight
set_option maxRecDepth 100000
theorem t_7 : Go.Sx.treeD Try.prog Go.Proofs.Ytamljpeicecbjaa.LeafX.cxB 1000 24 8 [97, 23, 23] [7] 100000 [] = true := by kernel_rfl
theorem t_8 : Go.Sx.treeD Try.prog Go.Proofs.Ytamljpeicecbjaa.LeafX.cxB 1000 24 8 [97, 23, 23] [8] 100000 [] = true := by kernel_rfl
theorem t_9 : Go.Sx.treeD Try.prog Go.Proofs.Ytamljpeicecbjaa.LeafX.cxB 1000 24 8 [97, 23, 23] [9] 100000 [] = true := by kernel_rfl
end Go.Proofs.Ytamljpeicecbjaa.fnExactWorstLight
