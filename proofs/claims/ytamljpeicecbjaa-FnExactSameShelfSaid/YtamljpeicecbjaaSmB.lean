/- Ways of the same shelves' law: the tree that the executor reckons is true at each leaf. No condition. -/
import Derived.Test.YtamljpeicecbjaaRows
import Derived.Test.YtamljpeicecbjaaSs
import Derived.Test.YtamljpeicecbjaaDoor
import Derived.WalkKit
import Derived.ProofKit
namespace Go.Proofs.Ytamljpeicecbjaa.fnExactSameShelf
set_option maxRecDepth 100000
theorem t_1_0 : Go.Sx.treeD Try.prog Go.Proofs.Ytamljpeicecbjaa.LeafSm.cxB 1000 4 6 [36, 36] [1, 0] 100000 [] = true := by kernel_rfl
theorem t_1_2 : Go.Sx.treeD Try.prog Go.Proofs.Ytamljpeicecbjaa.LeafSm.cxB 1000 4 6 [36, 36] [1, 2] 100000 [] = true := by kernel_rfl
theorem t_1_6 : Go.Sx.treeD Try.prog Go.Proofs.Ytamljpeicecbjaa.LeafSm.cxB 1000 4 6 [36, 36] [1, 6] 100000 [] = true := by kernel_rfl
theorem t_3_5 : Go.Sx.treeD Try.prog Go.Proofs.Ytamljpeicecbjaa.LeafSm.cxB 1000 4 6 [36, 36] [3, 5] 100000 [] = true := by kernel_rfl
theorem t_3_8 : Go.Sx.treeD Try.prog Go.Proofs.Ytamljpeicecbjaa.LeafSm.cxB 1000 4 6 [36, 36] [3, 8] 100000 [] = true := by kernel_rfl
theorem t_5_0 : Go.Sx.treeD Try.prog Go.Proofs.Ytamljpeicecbjaa.LeafSm.cxB 1000 4 6 [36, 36] [5, 0] 100000 [] = true := by kernel_rfl
theorem t_6_0 : Go.Sx.treeD Try.prog Go.Proofs.Ytamljpeicecbjaa.LeafSm.cxB 1000 4 6 [36, 36] [6, 0] 100000 [] = true := by kernel_rfl
theorem t_6_3 : Go.Sx.treeD Try.prog Go.Proofs.Ytamljpeicecbjaa.LeafSm.cxB 1000 4 6 [36, 36] [6, 3] 100000 [] = true := by kernel_rfl
theorem t_6_6 : Go.Sx.treeD Try.prog Go.Proofs.Ytamljpeicecbjaa.LeafSm.cxB 1000 4 6 [36, 36] [6, 6] 100000 [] = true := by kernel_rfl
theorem t_7_0 : Go.Sx.treeD Try.prog Go.Proofs.Ytamljpeicecbjaa.LeafSm.cxB 1000 4 6 [36, 36] [7, 0] 100000 [] = true := by kernel_rfl
theorem t_8_2 : Go.Sx.treeD Try.prog Go.Proofs.Ytamljpeicecbjaa.LeafSm.cxB 1000 4 6 [36, 36] [8, 2] 100000 [] = true := by kernel_rfl
theorem t_8_3 : Go.Sx.treeD Try.prog Go.Proofs.Ytamljpeicecbjaa.LeafSm.cxB 1000 4 6 [36, 36] [8, 3] 100000 [] = true := by kernel_rfl
end Go.Proofs.Ytamljpeicecbjaa.fnExactSameShelf
