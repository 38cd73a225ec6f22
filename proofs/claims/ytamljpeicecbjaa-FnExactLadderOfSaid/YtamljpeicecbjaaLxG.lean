/- Cases of the ladder law: the tree that the executor reckons is true at each leaf. No condition. -/
import Derived.Test.YtamljpeicecbjaaRows
import Derived.Test.YtamljpeicecbjaaLa
import Derived.Test.YtamljpeicecbjaaDoor
import Derived.WalkKit
import Derived.ProofKit
import Derived.OpenShut
import Derived.ShutString
import Derived.ChangeOld
namespace Go.Proofs.Ytamljpeicecbjaa.fnExactLadderOf
set_option maxRecDepth 100000
theorem c_5_3_3 : (Go.Proofs.Ytamljpeicecbjaa.Leaf.LS 5 3 3 0 0).closed (9 + 34 * 5) = true := by kernel_rfl
theorem c_6_0_5 : (Go.Proofs.Ytamljpeicecbjaa.Leaf.LS 6 0 5 0 0).closed (9 + 34 * 6) = true := by kernel_rfl
theorem c_6_2_5 : (Go.Proofs.Ytamljpeicecbjaa.Leaf.LS 6 2 5 0 0).closed (9 + 34 * 6) = true := by kernel_rfl
theorem c_6_4_5 : (Go.Proofs.Ytamljpeicecbjaa.Leaf.LS 6 4 5 0 0).closed (9 + 34 * 6) = true := by kernel_rfl
theorem i_2_0_1_0 : Go.Proofs.Ytamljpeicecbjaa.Leaf.tL 3 0 1 (Go.Proofs.Ytamljpeicecbjaa.Leaf.csA 2 0 1 0) = true := by kernel_rfl
theorem i_3_0_1_0 : Go.Proofs.Ytamljpeicecbjaa.Leaf.tL 4 0 1 (Go.Proofs.Ytamljpeicecbjaa.Leaf.csA 3 0 1 0) = true := by kernel_rfl
theorem i_3_1_0_0 : Go.Proofs.Ytamljpeicecbjaa.Leaf.tL 4 1 0 (Go.Proofs.Ytamljpeicecbjaa.Leaf.csA 3 1 0 0) = true := by kernel_rfl
theorem i_4_1_2_0 : Go.Proofs.Ytamljpeicecbjaa.Leaf.tL 5 1 2 (Go.Proofs.Ytamljpeicecbjaa.Leaf.csA 4 1 2 0) = true := by kernel_rfl
theorem i_4_2_3_0 : Go.Proofs.Ytamljpeicecbjaa.Leaf.tL 5 2 3 (Go.Proofs.Ytamljpeicecbjaa.Leaf.csA 4 2 3 0) = true := by kernel_rfl
theorem i_5_0_1_0 : Go.Proofs.Ytamljpeicecbjaa.Leaf.tL 6 0 1 (Go.Proofs.Ytamljpeicecbjaa.Leaf.csA 5 0 1 0) = true := by kernel_rfl
theorem i_5_0_3_0 : Go.Proofs.Ytamljpeicecbjaa.Leaf.tL 6 0 3 (Go.Proofs.Ytamljpeicecbjaa.Leaf.csA 5 0 3 0) = true := by kernel_rfl
theorem i_5_1_3_0 : Go.Proofs.Ytamljpeicecbjaa.Leaf.tL 6 1 3 (Go.Proofs.Ytamljpeicecbjaa.Leaf.csA 5 1 3 0) = true := by kernel_rfl
theorem i_5_2_3_0 : Go.Proofs.Ytamljpeicecbjaa.Leaf.tL 6 2 3 (Go.Proofs.Ytamljpeicecbjaa.Leaf.csA 5 2 3 0) = true := by kernel_rfl
theorem i_5_3_2_0 : Go.Proofs.Ytamljpeicecbjaa.Leaf.tL 6 3 2 (Go.Proofs.Ytamljpeicecbjaa.Leaf.csA 5 3 2 0) = true := by kernel_rfl
theorem i_5_4_2_0 : Go.Proofs.Ytamljpeicecbjaa.Leaf.tL 6 4 2 (Go.Proofs.Ytamljpeicecbjaa.Leaf.csA 5 4 2 0) = true := by kernel_rfl
theorem i_6_0_3_0 : Go.Proofs.Ytamljpeicecbjaa.Leaf.tL 7 0 3 (Go.Proofs.Ytamljpeicecbjaa.Leaf.csA 6 0 3 0) = true := by kernel_rfl
theorem i_6_1_2_0 : Go.Proofs.Ytamljpeicecbjaa.Leaf.tL 7 1 2 (Go.Proofs.Ytamljpeicecbjaa.Leaf.csA 6 1 2 0) = true := by kernel_rfl
theorem i_6_2_0_0 : Go.Proofs.Ytamljpeicecbjaa.Leaf.tL 7 2 0 (Go.Proofs.Ytamljpeicecbjaa.Leaf.csA 6 2 0 0) = true := by kernel_rfl
theorem i_6_2_5_0 : Go.Proofs.Ytamljpeicecbjaa.Leaf.tL 7 2 5 (Go.Proofs.Ytamljpeicecbjaa.Leaf.csA 6 2 5 0) = true := by kernel_rfl
theorem i_6_3_4_0 : Go.Proofs.Ytamljpeicecbjaa.Leaf.tL 7 3 4 (Go.Proofs.Ytamljpeicecbjaa.Leaf.csA 6 3 4 0) = true := by kernel_rfl
theorem i_6_4_2_0 : Go.Proofs.Ytamljpeicecbjaa.Leaf.tL 7 4 2 (Go.Proofs.Ytamljpeicecbjaa.Leaf.csA 6 4 2 0) = true := by kernel_rfl
theorem i_6_5_1_0 : Go.Proofs.Ytamljpeicecbjaa.Leaf.tL 7 5 1 (Go.Proofs.Ytamljpeicecbjaa.Leaf.csA 6 5 1 0) = true := by kernel_rfl
theorem j_5_0_0 : Go.Proofs.Ytamljpeicecbjaa.Leaf.tL 6 0 0 (Go.Proofs.Ytamljpeicecbjaa.Leaf.csL 5 0 0) = true := by kernel_rfl
theorem j_6_3_3 : Go.Proofs.Ytamljpeicecbjaa.Leaf.tL 7 3 3 (Go.Proofs.Ytamljpeicecbjaa.Leaf.csL 6 3 3) = true := by kernel_rfl
theorem o_4_0 : Go.Proofs.Ytamljpeicecbjaa.Leaf.tL 5 0 0 (Go.Proofs.Ytamljpeicecbjaa.Leaf.csO 4 0) = true := by kernel_rfl
end Go.Proofs.Ytamljpeicecbjaa.fnExactLadderOf
