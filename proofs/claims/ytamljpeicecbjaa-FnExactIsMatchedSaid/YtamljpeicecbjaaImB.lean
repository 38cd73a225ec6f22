/- Ways of a law: the tree that the executor reckons is true at each leaf. No condition. -/
import Derived.Test.YtamljpeicecbjaaRows
import Derived.Test.YtamljpeicecbjaaIg
import Derived.Test.YtamljpeicecbjaaDoor
import Derived.WalkKit
import Derived.ProofKit
import Derived.OpenShut
import Derived.ShutString
import Derived.ChangeOld
namespace Go.Proofs.Ytamljpeicecbjaa.fnExactIsMatched
set_option maxRecDepth 100000
theorem t_0 : Go.Sx.treeD Try.prog Go.Proofs.Ytamljpeicecbjaa.LeafIm.cxB 1000 31 6 [36, 49, 23, 22] [0] 100000 [] = true := by kernel_rfl
theorem t_1 : Go.Sx.treeD Try.prog Go.Proofs.Ytamljpeicecbjaa.LeafIm.cxB 1000 31 6 [36, 49, 23, 22] [1] 100000 [] = true := by kernel_rfl
theorem t_2 : Go.Sx.treeD Try.prog Go.Proofs.Ytamljpeicecbjaa.LeafIm.cxB 1000 31 6 [36, 49, 23, 22] [2] 100000 [] = true := by kernel_rfl
theorem t_5 : Go.Sx.treeD Try.prog Go.Proofs.Ytamljpeicecbjaa.LeafIm.cxB 1000 31 6 [36, 49, 23, 22] [5] 100000 [] = true := by kernel_rfl
theorem t_6 : Go.Sx.treeD Try.prog Go.Proofs.Ytamljpeicecbjaa.LeafIm.cxB 1000 31 6 [36, 49, 23, 22] [6] 100000 [] = true := by kernel_rfl
theorem t_8 : Go.Sx.treeD Try.prog Go.Proofs.Ytamljpeicecbjaa.LeafIm.cxB 1000 31 6 [36, 49, 23, 22] [8] 100000 [] = true := by kernel_rfl
end Go.Proofs.Ytamljpeicecbjaa.fnExactIsMatched
