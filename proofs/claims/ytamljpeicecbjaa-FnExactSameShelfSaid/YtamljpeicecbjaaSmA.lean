/- Ways of the same shelves' law: the tree that the executor reckons is true at each leaf. No condition. -/
import Derived.Test.YtamljpeicecbjaaRows
import Derived.Test.YtamljpeicecbjaaSs
import Derived.Test.YtamljpeicecbjaaDoor
import Derived.WalkKit
import Derived.ProofKit
namespace Go.Proofs.Ytamljpeicecbjaa.fnExactSameShelf
set_option maxRecDepth 100000
theorem t_0_0 : Go.Sx.treeD Try.prog Go.Proofs.Ytamljpeicecbjaa.LeafSm.cxB 1000 4 6 [36, 36] [0, 0] 100000 [] = true := by kernel_rfl
theorem t_0_4 : Go.Sx.treeD Try.prog Go.Proofs.Ytamljpeicecbjaa.LeafSm.cxB 1000 4 6 [36, 36] [0, 4] 100000 [] = true := by kernel_rfl
theorem t_0_5 : Go.Sx.treeD Try.prog Go.Proofs.Ytamljpeicecbjaa.LeafSm.cxB 1000 4 6 [36, 36] [0, 5] 100000 [] = true := by kernel_rfl
theorem t_0_6 : Go.Sx.treeD Try.prog Go.Proofs.Ytamljpeicecbjaa.LeafSm.cxB 1000 4 6 [36, 36] [0, 6] 100000 [] = true := by kernel_rfl
theorem t_1_8 : Go.Sx.treeD Try.prog Go.Proofs.Ytamljpeicecbjaa.LeafSm.cxB 1000 4 6 [36, 36] [1, 8] 100000 [] = true := by kernel_rfl
theorem t_2_1 : Go.Sx.treeD Try.prog Go.Proofs.Ytamljpeicecbjaa.LeafSm.cxB 1000 4 6 [36, 36] [2, 1] 100000 [] = true := by kernel_rfl
theorem t_2_5 : Go.Sx.treeD Try.prog Go.Proofs.Ytamljpeicecbjaa.LeafSm.cxB 1000 4 6 [36, 36] [2, 5] 100000 [] = true := by kernel_rfl
theorem t_2_8 : Go.Sx.treeD Try.prog Go.Proofs.Ytamljpeicecbjaa.LeafSm.cxB 1000 4 6 [36, 36] [2, 8] 100000 [] = true := by kernel_rfl
theorem t_5_3 : Go.Sx.treeD Try.prog Go.Proofs.Ytamljpeicecbjaa.LeafSm.cxB 1000 4 6 [36, 36] [5, 3] 100000 [] = true := by kernel_rfl
theorem t_7_2 : Go.Sx.treeD Try.prog Go.Proofs.Ytamljpeicecbjaa.LeafSm.cxB 1000 4 6 [36, 36] [7, 2] 100000 [] = true := by kernel_rfl
theorem t_7_7 : Go.Sx.treeD Try.prog Go.Proofs.Ytamljpeicecbjaa.LeafSm.cxB 1000 4 6 [36, 36] [7, 7] 100000 [] = true := by kernel_rfl
end Go.Proofs.Ytamljpeicecbjaa.fnExactSameShelf
