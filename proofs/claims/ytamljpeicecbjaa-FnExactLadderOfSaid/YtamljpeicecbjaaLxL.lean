/- Cases of the ladder law: the tree that the executor reckons is true at each leaf. No condition. -/
import Derived.Test.YtamljpeicecbjaaRows
import Derived.Test.YtamljpeicecbjaaLa
import Derived.Test.YtamljpeicecbjaaDoor
import Derived.WalkKit
import Derived.ProofKit
import Derived.OpenShut
import Derived.ShutString
import Derived.ChangeOld
namespace Go.Proofs.Ytamljpeicecbjaa.fnExactLadderOf
set_option maxRecDepth 100000
theorem c_5_0_2 : (Go.Proofs.Ytamljpeicecbjaa.Leaf.LS 5 0 2 0 0).closed (9 + 34 * 5) = true := by kernel_rfl
theorem c_5_2_1 : (Go.Proofs.Ytamljpeicecbjaa.Leaf.LS 5 2 1 0 0).closed (9 + 34 * 5) = true := by kernel_rfl
theorem c_5_4_3 : (Go.Proofs.Ytamljpeicecbjaa.Leaf.LS 5 4 3 0 0).closed (9 + 34 * 5) = true := by kernel_rfl
theorem c_6_1_4 : (Go.Proofs.Ytamljpeicecbjaa.Leaf.LS 6 1 4 0 0).closed (9 + 34 * 6) = true := by kernel_rfl
theorem c_6_3_4 : (Go.Proofs.Ytamljpeicecbjaa.Leaf.LS 6 3 4 0 0).closed (9 + 34 * 6) = true := by kernel_rfl
theorem c_6_5_4 : (Go.Proofs.Ytamljpeicecbjaa.Leaf.LS 6 5 4 0 0).closed (9 + 34 * 6) = true := by kernel_rfl
theorem i_2_1_0_2 : Go.Proofs.Ytamljpeicecbjaa.Leaf.tL 3 1 0 (Go.Proofs.Ytamljpeicecbjaa.Leaf.csA 2 1 0 2) = true := by kernel_rfl
theorem i_3_0_2_2 : Go.Proofs.Ytamljpeicecbjaa.Leaf.tL 4 0 2 (Go.Proofs.Ytamljpeicecbjaa.Leaf.csA 3 0 2 2) = true := by kernel_rfl
theorem i_3_1_2_2 : Go.Proofs.Ytamljpeicecbjaa.Leaf.tL 4 1 2 (Go.Proofs.Ytamljpeicecbjaa.Leaf.csA 3 1 2 2) = true := by kernel_rfl
theorem i_4_1_3_2 : Go.Proofs.Ytamljpeicecbjaa.Leaf.tL 5 1 3 (Go.Proofs.Ytamljpeicecbjaa.Leaf.csA 4 1 3 2) = true := by kernel_rfl
theorem i_4_3_0_2 : Go.Proofs.Ytamljpeicecbjaa.Leaf.tL 5 3 0 (Go.Proofs.Ytamljpeicecbjaa.Leaf.csA 4 3 0 2) = true := by kernel_rfl
theorem i_5_0_2_2 : Go.Proofs.Ytamljpeicecbjaa.Leaf.tL 6 0 2 (Go.Proofs.Ytamljpeicecbjaa.Leaf.csA 5 0 2 2) = true := by kernel_rfl
theorem i_5_0_4_2 : Go.Proofs.Ytamljpeicecbjaa.Leaf.tL 6 0 4 (Go.Proofs.Ytamljpeicecbjaa.Leaf.csA 5 0 4 2) = true := by kernel_rfl
theorem i_5_1_4_2 : Go.Proofs.Ytamljpeicecbjaa.Leaf.tL 6 1 4 (Go.Proofs.Ytamljpeicecbjaa.Leaf.csA 5 1 4 2) = true := by kernel_rfl
theorem i_5_2_4_2 : Go.Proofs.Ytamljpeicecbjaa.Leaf.tL 6 2 4 (Go.Proofs.Ytamljpeicecbjaa.Leaf.csA 5 2 4 2) = true := by kernel_rfl
theorem i_5_3_4_2 : Go.Proofs.Ytamljpeicecbjaa.Leaf.tL 6 3 4 (Go.Proofs.Ytamljpeicecbjaa.Leaf.csA 5 3 4 2) = true := by kernel_rfl
theorem i_5_4_3_2 : Go.Proofs.Ytamljpeicecbjaa.Leaf.tL 6 4 3 (Go.Proofs.Ytamljpeicecbjaa.Leaf.csA 5 4 3 2) = true := by kernel_rfl
theorem i_6_0_4_2 : Go.Proofs.Ytamljpeicecbjaa.Leaf.tL 7 0 4 (Go.Proofs.Ytamljpeicecbjaa.Leaf.csA 6 0 4 2) = true := by kernel_rfl
theorem i_6_1_3_2 : Go.Proofs.Ytamljpeicecbjaa.Leaf.tL 7 1 3 (Go.Proofs.Ytamljpeicecbjaa.Leaf.csA 6 1 3 2) = true := by kernel_rfl
theorem i_6_2_1_2 : Go.Proofs.Ytamljpeicecbjaa.Leaf.tL 7 2 1 (Go.Proofs.Ytamljpeicecbjaa.Leaf.csA 6 2 1 2) = true := by kernel_rfl
theorem i_6_3_0_2 : Go.Proofs.Ytamljpeicecbjaa.Leaf.tL 7 3 0 (Go.Proofs.Ytamljpeicecbjaa.Leaf.csA 6 3 0 2) = true := by kernel_rfl
theorem i_6_3_5_2 : Go.Proofs.Ytamljpeicecbjaa.Leaf.tL 7 3 5 (Go.Proofs.Ytamljpeicecbjaa.Leaf.csA 6 3 5 2) = true := by kernel_rfl
theorem i_6_4_3_2 : Go.Proofs.Ytamljpeicecbjaa.Leaf.tL 7 4 3 (Go.Proofs.Ytamljpeicecbjaa.Leaf.csA 6 4 3 2) = true := by kernel_rfl
theorem i_6_5_2_2 : Go.Proofs.Ytamljpeicecbjaa.Leaf.tL 7 5 2 (Go.Proofs.Ytamljpeicecbjaa.Leaf.csA 6 5 2 2) = true := by kernel_rfl
theorem j_4_1_1 : Go.Proofs.Ytamljpeicecbjaa.Leaf.tL 5 1 1 (Go.Proofs.Ytamljpeicecbjaa.Leaf.csL 4 1 1) = true := by kernel_rfl
theorem o_6_0 : Go.Proofs.Ytamljpeicecbjaa.Leaf.tL 7 0 0 (Go.Proofs.Ytamljpeicecbjaa.Leaf.csO 6 0) = true := by kernel_rfl
theorem t_8 : Go.Sx.treeX Try.prog (Go.Proofs.Ytamljpeicecbjaa.Leaf.cxLa 1 0 0) 1000 28 6 [36, 2, 2, 2] [8] 100000 [] [] = true := by kernel_rfl
end Go.Proofs.Ytamljpeicecbjaa.fnExactLadderOf
