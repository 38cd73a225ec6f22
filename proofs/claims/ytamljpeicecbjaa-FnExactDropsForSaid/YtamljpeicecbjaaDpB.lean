/- Ways of a law: the tree that the executor reckons is true at each leaf. No condition. -/
import Derived.Test.YtamljpeicecbjaaRows
import Derived.Test.YtamljpeicecbjaaDg
import Derived.Test.YtamljpeicecbjaaDoor
import Derived.WalkKit
import Derived.ProofKit
import Derived.OpenShut
import Derived.ShutString
import Derived.ChangeOld
namespace Go.Proofs.Ytamljpeicecbjaa.fnExactDropsFor
set_option maxRecDepth 100000
theorem t_2 : Go.Sx.treeD Try.prog Go.Proofs.Ytamljpeicecbjaa.LeafDp.cxB 1000 22 6 [36, 49, 2] [2] 100000 [] = true := by kernel_rfl
theorem t_6 : Go.Sx.treeD Try.prog Go.Proofs.Ytamljpeicecbjaa.LeafDp.cxB 1000 22 6 [36, 49, 2] [6] 100000 [] = true := by kernel_rfl
end Go.Proofs.Ytamljpeicecbjaa.fnExactDropsFor
