/- Ways of the same shelves' law: the tree that the executor reckons is true at each leaf. No condition. -/
import Derived.Test.YtamljpeicecbjaaRows
import Derived.Test.YtamljpeicecbjaaSs
import Derived.Test.YtamljpeicecbjaaDoor
import Derived.WalkKit
import Derived.ProofKit
namespace Go.Proofs.Ytamljpeicecbjaa.fnExactSameShelf
set_option maxRecDepth 100000
theorem t_0_8 : Go.Sx.treeD Try.prog Go.Proofs.Ytamljpeicecbjaa.LeafSm.cxB 1000 4 6 [36, 36] [0, 8] 100000 [] = true := by kernel_rfl
theorem t_1_3 : Go.Sx.treeD Try.prog Go.Proofs.Ytamljpeicecbjaa.LeafSm.cxB 1000 4 6 [36, 36] [1, 3] 100000 [] = true := by kernel_rfl
theorem t_1_4 : Go.Sx.treeD Try.prog Go.Proofs.Ytamljpeicecbjaa.LeafSm.cxB 1000 4 6 [36, 36] [1, 4] 100000 [] = true := by kernel_rfl
theorem t_1_5 : Go.Sx.treeD Try.prog Go.Proofs.Ytamljpeicecbjaa.LeafSm.cxB 1000 4 6 [36, 36] [1, 5] 100000 [] = true := by kernel_rfl
theorem t_3_0 : Go.Sx.treeD Try.prog Go.Proofs.Ytamljpeicecbjaa.LeafSm.cxB 1000 4 6 [36, 36] [3, 0] 100000 [] = true := by kernel_rfl
theorem t_3_4 : Go.Sx.treeD Try.prog Go.Proofs.Ytamljpeicecbjaa.LeafSm.cxB 1000 4 6 [36, 36] [3, 4] 100000 [] = true := by kernel_rfl
theorem t_3_6 : Go.Sx.treeD Try.prog Go.Proofs.Ytamljpeicecbjaa.LeafSm.cxB 1000 4 6 [36, 36] [3, 6] 100000 [] = true := by kernel_rfl
theorem t_4_6 : Go.Sx.treeD Try.prog Go.Proofs.Ytamljpeicecbjaa.LeafSm.cxB 1000 4 6 [36, 36] [4, 6] 100000 [] = true := by kernel_rfl
theorem t_5_5 : Go.Sx.treeD Try.prog Go.Proofs.Ytamljpeicecbjaa.LeafSm.cxB 1000 4 6 [36, 36] [5, 5] 100000 [] = true := by kernel_rfl
theorem t_5_6 : Go.Sx.treeD Try.prog Go.Proofs.Ytamljpeicecbjaa.LeafSm.cxB 1000 4 6 [36, 36] [5, 6] 100000 [] = true := by kernel_rfl
theorem t_5_7 : Go.Sx.treeD Try.prog Go.Proofs.Ytamljpeicecbjaa.LeafSm.cxB 1000 4 6 [36, 36] [5, 7] 100000 [] = true := by kernel_rfl
theorem t_6_2 : Go.Sx.treeD Try.prog Go.Proofs.Ytamljpeicecbjaa.LeafSm.cxB 1000 4 6 [36, 36] [6, 2] 100000 [] = true := by kernel_rfl
theorem t_6_7 : Go.Sx.treeD Try.prog Go.Proofs.Ytamljpeicecbjaa.LeafSm.cxB 1000 4 6 [36, 36] [6, 7] 100000 [] = true := by kernel_rfl
end Go.Proofs.Ytamljpeicecbjaa.fnExactSameShelf
