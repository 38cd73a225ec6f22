/- Ways of a law: the tree that the executor reckons is true at each leaf. No condition. -/
import Derived.Test.YtamljpeicecbjaaRows
import Derived.Test.YtamljpeicecbjaaIg
import Derived.Test.YtamljpeicecbjaaDoor
import Derived.WalkKit
import Derived.ProofKit
import Derived.OpenShut
import Derived.ShutString
import Derived.ChangeOld
namespace Go.Proofs.Ytamljpeicecbjaa.fnExactIsMatched
set_option maxRecDepth 100000
theorem t_3 : Go.Sx.treeD Try.prog Go.Proofs.Ytamljpeicecbjaa.LeafIm.cxB 1000 31 6 [36, 49, 23, 22] [3] 100000 [] = true := by kernel_rfl
theorem t_4 : Go.Sx.treeD Try.prog Go.Proofs.Ytamljpeicecbjaa.LeafIm.cxB 1000 31 6 [36, 49, 23, 22] [4] 100000 [] = true := by kernel_rfl
theorem t_7 : Go.Sx.treeD Try.prog Go.Proofs.Ytamljpeicecbjaa.LeafIm.cxB 1000 31 6 [36, 49, 23, 22] [7] 100000 [] = true := by kernel_rfl
end Go.Proofs.Ytamljpeicecbjaa.fnExactIsMatched
