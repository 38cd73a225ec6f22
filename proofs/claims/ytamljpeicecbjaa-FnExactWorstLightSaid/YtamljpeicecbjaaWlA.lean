/- Ways of the worst light's law: the tree that the executor reckons is true at each leaf. No condition. -/
import Derived.Test.YtamljpeicecbjaaRows
import Derived.Test.YtamljpeicecbjaaWl
import Derived.Test.YtamljpeicecbjaaDoor
import Derived.WalkKit
import Derived.ProofKit
namespace Go.Proofs.Ytamljpeicecbjaa.fnExactWorstLight
set_option maxRecDepth 100000
theorem t_0 : Go.Sx.treeD Try.prog Go.Proofs.Ytamljpeicecbjaa.LeafX.cxB 1000 24 8 [97, 23, 23] [0] 100000 [] = true := by kernel_rfl
theorem t_1 : Go.Sx.treeD Try.prog Go.Proofs.Ytamljpeicecbjaa.LeafX.cxB 1000 24 8 [97, 23, 23] [1] 100000 [] = true := by kernel_rfl
theorem t_2 : Go.Sx.treeD Try.prog Go.Proofs.Ytamljpeicecbjaa.LeafX.cxB 1000 24 8 [97, 23, 23] [2] 100000 [] = true := by kernel_rfl
theorem t_3 : Go.Sx.treeD Try.prog Go.Proofs.Ytamljpeicecbjaa.LeafX.cxB 1000 24 8 [97, 23, 23] [3] 100000 [] = true := by kernel_rfl
theorem t_4 : Go.Sx.treeD Try.prog Go.Proofs.Ytamljpeicecbjaa.LeafX.cxB 1000 24 8 [97, 23, 23] [4] 100000 [] = true := by kernel_rfl
theorem t_10 : Go.Sx.treeD Try.prog Go.Proofs.Ytamljpeicecbjaa.LeafX.cxB 1000 24 8 [97, 23, 23] [10] 100000 [] = true := by kernel_rfl
theorem t_5 : Go.Sx.treeD Try.prog Go.Proofs.Ytamljpeicecbjaa.LeafX.cxB 1000 24 8 [97, 23, 23] [5] 100000 [] = true := by kernel_rfl
theorem t_6 : Go.Sx.treeD Try.prog Go.Proofs.Ytamljpeicecbjaa.LeafX.cxB 1000 24 8 [97, 23, 23] [6] 100000 [] = true := by kernel_rfl
end Go.Proofs.Ytamljpeicecbjaa.fnExactWorstLight
