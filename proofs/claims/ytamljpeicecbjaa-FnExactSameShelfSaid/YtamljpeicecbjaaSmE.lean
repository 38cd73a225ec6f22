/- Ways of the same shelves' law: the tree that the executor reckons is true at each leaf. No condition. -/
import Derived.Test.YtamljpeicecbjaaRows
import Derived.Test.YtamljpeicecbjaaSs
import Derived.Test.YtamljpeicecbjaaDoor
import Derived.WalkKit
import Derived.ProofKit
namespace Go.Proofs.Ytamljpeicecbjaa.fnExactSameShelf
set_option maxRecDepth 100000
theorem t_0_1 : Go.Sx.treeD Try.prog Go.Proofs.Ytamljpeicecbjaa.LeafSm.cxB 1000 4 6 [36, 36] [0, 1] 100000 [] = true := by kernel_rfl
theorem t_0_3 : Go.Sx.treeD Try.prog Go.Proofs.Ytamljpeicecbjaa.LeafSm.cxB 1000 4 6 [36, 36] [0, 3] 100000 [] = true := by kernel_rfl
theorem t_0_7 : Go.Sx.treeD Try.prog Go.Proofs.Ytamljpeicecbjaa.LeafSm.cxB 1000 4 6 [36, 36] [0, 7] 100000 [] = true := by kernel_rfl
theorem t_2_6 : Go.Sx.treeD Try.prog Go.Proofs.Ytamljpeicecbjaa.LeafSm.cxB 1000 4 6 [36, 36] [2, 6] 100000 [] = true := by kernel_rfl
theorem t_3_3 : Go.Sx.treeD Try.prog Go.Proofs.Ytamljpeicecbjaa.LeafSm.cxB 1000 4 6 [36, 36] [3, 3] 100000 [] = true := by kernel_rfl
theorem t_4_1 : Go.Sx.treeD Try.prog Go.Proofs.Ytamljpeicecbjaa.LeafSm.cxB 1000 4 6 [36, 36] [4, 1] 100000 [] = true := by kernel_rfl
theorem t_5_1 : Go.Sx.treeD Try.prog Go.Proofs.Ytamljpeicecbjaa.LeafSm.cxB 1000 4 6 [36, 36] [5, 1] 100000 [] = true := by kernel_rfl
theorem t_5_4 : Go.Sx.treeD Try.prog Go.Proofs.Ytamljpeicecbjaa.LeafSm.cxB 1000 4 6 [36, 36] [5, 4] 100000 [] = true := by kernel_rfl
theorem t_6_1 : Go.Sx.treeD Try.prog Go.Proofs.Ytamljpeicecbjaa.LeafSm.cxB 1000 4 6 [36, 36] [6, 1] 100000 [] = true := by kernel_rfl
theorem t_7_3 : Go.Sx.treeD Try.prog Go.Proofs.Ytamljpeicecbjaa.LeafSm.cxB 1000 4 6 [36, 36] [7, 3] 100000 [] = true := by kernel_rfl
theorem t_7_4 : Go.Sx.treeD Try.prog Go.Proofs.Ytamljpeicecbjaa.LeafSm.cxB 1000 4 6 [36, 36] [7, 4] 100000 [] = true := by kernel_rfl
theorem t_7_8 : Go.Sx.treeD Try.prog Go.Proofs.Ytamljpeicecbjaa.LeafSm.cxB 1000 4 6 [36, 36] [7, 8] 100000 [] = true := by kernel_rfl
theorem t_8_4 : Go.Sx.treeD Try.prog Go.Proofs.Ytamljpeicecbjaa.LeafSm.cxB 1000 4 6 [36, 36] [8, 4] 100000 [] = true := by kernel_rfl
theorem t_8_5 : Go.Sx.treeD Try.prog Go.Proofs.Ytamljpeicecbjaa.LeafSm.cxB 1000 4 6 [36, 36] [8, 5] 100000 [] = true := by kernel_rfl
theorem t_8_6 : Go.Sx.treeD Try.prog Go.Proofs.Ytamljpeicecbjaa.LeafSm.cxB 1000 4 6 [36, 36] [8, 6] 100000 [] = true := by kernel_rfl
end Go.Proofs.Ytamljpeicecbjaa.fnExactSameShelf
