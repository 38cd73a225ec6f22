/- Ways of the same shelves' law: the tree that the executor reckons is true at each leaf. No condition. -/
import Derived.Test.YtamljpeicecbjaaRows
import Derived.Test.YtamljpeicecbjaaSs
import Derived.Test.YtamljpeicecbjaaDoor
import Derived.WalkKit
import Derived.ProofKit
namespace Go.Proofs.Ytamljpeicecbjaa.fnExactSameShelf
set_option maxRecDepth 100000
theorem t_0_2 : Go.Sx.treeD Try.prog Go.Proofs.Ytamljpeicecbjaa.LeafSm.cxB 1000 4 6 [36, 36] [0, 2] 100000 [] = true := by kernel_rfl
theorem t_1_1 : Go.Sx.treeD Try.prog Go.Proofs.Ytamljpeicecbjaa.LeafSm.cxB 1000 4 6 [36, 36] [1, 1] 100000 [] = true := by kernel_rfl
theorem t_2_2 : Go.Sx.treeD Try.prog Go.Proofs.Ytamljpeicecbjaa.LeafSm.cxB 1000 4 6 [36, 36] [2, 2] 100000 [] = true := by kernel_rfl
theorem t_2_3 : Go.Sx.treeD Try.prog Go.Proofs.Ytamljpeicecbjaa.LeafSm.cxB 1000 4 6 [36, 36] [2, 3] 100000 [] = true := by kernel_rfl
theorem t_2_4 : Go.Sx.treeD Try.prog Go.Proofs.Ytamljpeicecbjaa.LeafSm.cxB 1000 4 6 [36, 36] [2, 4] 100000 [] = true := by kernel_rfl
theorem t_2_7 : Go.Sx.treeD Try.prog Go.Proofs.Ytamljpeicecbjaa.LeafSm.cxB 1000 4 6 [36, 36] [2, 7] 100000 [] = true := by kernel_rfl
theorem t_3_1 : Go.Sx.treeD Try.prog Go.Proofs.Ytamljpeicecbjaa.LeafSm.cxB 1000 4 6 [36, 36] [3, 1] 100000 [] = true := by kernel_rfl
theorem t_3_7 : Go.Sx.treeD Try.prog Go.Proofs.Ytamljpeicecbjaa.LeafSm.cxB 1000 4 6 [36, 36] [3, 7] 100000 [] = true := by kernel_rfl
theorem t_4_3 : Go.Sx.treeD Try.prog Go.Proofs.Ytamljpeicecbjaa.LeafSm.cxB 1000 4 6 [36, 36] [4, 3] 100000 [] = true := by kernel_rfl
theorem t_4_7 : Go.Sx.treeD Try.prog Go.Proofs.Ytamljpeicecbjaa.LeafSm.cxB 1000 4 6 [36, 36] [4, 7] 100000 [] = true := by kernel_rfl
theorem t_4_8 : Go.Sx.treeD Try.prog Go.Proofs.Ytamljpeicecbjaa.LeafSm.cxB 1000 4 6 [36, 36] [4, 8] 100000 [] = true := by kernel_rfl
theorem t_5_8 : Go.Sx.treeD Try.prog Go.Proofs.Ytamljpeicecbjaa.LeafSm.cxB 1000 4 6 [36, 36] [5, 8] 100000 [] = true := by kernel_rfl
theorem t_7_1 : Go.Sx.treeD Try.prog Go.Proofs.Ytamljpeicecbjaa.LeafSm.cxB 1000 4 6 [36, 36] [7, 1] 100000 [] = true := by kernel_rfl
theorem t_8_1 : Go.Sx.treeD Try.prog Go.Proofs.Ytamljpeicecbjaa.LeafSm.cxB 1000 4 6 [36, 36] [8, 1] 100000 [] = true := by kernel_rfl
theorem t_8_7 : Go.Sx.treeD Try.prog Go.Proofs.Ytamljpeicecbjaa.LeafSm.cxB 1000 4 6 [36, 36] [8, 7] 100000 [] = true := by kernel_rfl
theorem t_8_8 : Go.Sx.treeD Try.prog Go.Proofs.Ytamljpeicecbjaa.LeafSm.cxB 1000 4 6 [36, 36] [8, 8] 100000 [] = true := by kernel_rfl
end Go.Proofs.Ytamljpeicecbjaa.fnExactSameShelf
