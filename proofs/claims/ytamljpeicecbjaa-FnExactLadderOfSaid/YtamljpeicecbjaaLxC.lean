/- Cases of the ladder law: the tree that the executor reckons is true at each leaf. No condition. -/
import Derived.Test.YtamljpeicecbjaaRows
import Derived.Test.YtamljpeicecbjaaLa
import Derived.Test.YtamljpeicecbjaaDoor
import Derived.WalkKit
import Derived.ProofKit
import Derived.OpenShut
import Derived.ShutString
import Derived.ChangeOld
namespace Go.Proofs.Ytamljpeicecbjaa.fnExactLadderOf
set_option maxRecDepth 100000
theorem c_2_0_1 : (Go.Proofs.Ytamljpeicecbjaa.Leaf.LS 2 0 1 0 0).closed (9 + 34 * 2) = true := by kernel_rfl
theorem c_3_1_0 : (Go.Proofs.Ytamljpeicecbjaa.Leaf.LS 3 1 0 0 0).closed (9 + 34 * 3) = true := by kernel_rfl
theorem c_4_0_0 : (Go.Proofs.Ytamljpeicecbjaa.Leaf.LS 4 0 0 0 0).closed (9 + 34 * 4) = true := by kernel_rfl
theorem c_4_1_2 : (Go.Proofs.Ytamljpeicecbjaa.Leaf.LS 4 1 2 0 0).closed (9 + 34 * 4) = true := by kernel_rfl
theorem c_4_3_0 : (Go.Proofs.Ytamljpeicecbjaa.Leaf.LS 4 3 0 0 0).closed (9 + 34 * 4) = true := by kernel_rfl
theorem c_5_1_0 : (Go.Proofs.Ytamljpeicecbjaa.Leaf.LS 5 1 0 0 0).closed (9 + 34 * 5) = true := by kernel_rfl
theorem c_5_2_4 : (Go.Proofs.Ytamljpeicecbjaa.Leaf.LS 5 2 4 0 0).closed (9 + 34 * 5) = true := by kernel_rfl
theorem c_6_0_1 : (Go.Proofs.Ytamljpeicecbjaa.Leaf.LS 6 0 1 0 0).closed (9 + 34 * 6) = true := by kernel_rfl
theorem c_6_2_1 : (Go.Proofs.Ytamljpeicecbjaa.Leaf.LS 6 2 1 0 0).closed (9 + 34 * 6) = true := by kernel_rfl
theorem c_6_4_1 : (Go.Proofs.Ytamljpeicecbjaa.Leaf.LS 6 4 1 0 0).closed (9 + 34 * 6) = true := by kernel_rfl
theorem i_3_2_0_2 : Go.Proofs.Ytamljpeicecbjaa.Leaf.tL 4 2 0 (Go.Proofs.Ytamljpeicecbjaa.Leaf.csA 3 2 0 2) = true := by kernel_rfl
theorem i_4_0_1_2 : Go.Proofs.Ytamljpeicecbjaa.Leaf.tL 5 0 1 (Go.Proofs.Ytamljpeicecbjaa.Leaf.csA 4 0 1 2) = true := by kernel_rfl
theorem i_4_0_3_2 : Go.Proofs.Ytamljpeicecbjaa.Leaf.tL 5 0 3 (Go.Proofs.Ytamljpeicecbjaa.Leaf.csA 4 0 3 2) = true := by kernel_rfl
theorem i_4_2_0_2 : Go.Proofs.Ytamljpeicecbjaa.Leaf.tL 5 2 0 (Go.Proofs.Ytamljpeicecbjaa.Leaf.csA 4 2 0 2) = true := by kernel_rfl
theorem i_4_3_1_2 : Go.Proofs.Ytamljpeicecbjaa.Leaf.tL 5 3 1 (Go.Proofs.Ytamljpeicecbjaa.Leaf.csA 4 3 1 2) = true := by kernel_rfl
theorem i_5_1_0_2 : Go.Proofs.Ytamljpeicecbjaa.Leaf.tL 6 1 0 (Go.Proofs.Ytamljpeicecbjaa.Leaf.csA 5 1 0 2) = true := by kernel_rfl
theorem i_5_2_0_2 : Go.Proofs.Ytamljpeicecbjaa.Leaf.tL 6 2 0 (Go.Proofs.Ytamljpeicecbjaa.Leaf.csA 5 2 0 2) = true := by kernel_rfl
theorem i_5_3_0_2 : Go.Proofs.Ytamljpeicecbjaa.Leaf.tL 6 3 0 (Go.Proofs.Ytamljpeicecbjaa.Leaf.csA 5 3 0 2) = true := by kernel_rfl
theorem i_5_4_0_2 : Go.Proofs.Ytamljpeicecbjaa.Leaf.tL 6 4 0 (Go.Proofs.Ytamljpeicecbjaa.Leaf.csA 5 4 0 2) = true := by kernel_rfl
theorem i_6_0_1_2 : Go.Proofs.Ytamljpeicecbjaa.Leaf.tL 7 0 1 (Go.Proofs.Ytamljpeicecbjaa.Leaf.csA 6 0 1 2) = true := by kernel_rfl
theorem i_6_0_5_2 : Go.Proofs.Ytamljpeicecbjaa.Leaf.tL 7 0 5 (Go.Proofs.Ytamljpeicecbjaa.Leaf.csA 6 0 5 2) = true := by kernel_rfl
theorem i_6_1_4_2 : Go.Proofs.Ytamljpeicecbjaa.Leaf.tL 7 1 4 (Go.Proofs.Ytamljpeicecbjaa.Leaf.csA 6 1 4 2) = true := by kernel_rfl
theorem i_6_2_3_2 : Go.Proofs.Ytamljpeicecbjaa.Leaf.tL 7 2 3 (Go.Proofs.Ytamljpeicecbjaa.Leaf.csA 6 2 3 2) = true := by kernel_rfl
theorem i_6_3_1_2 : Go.Proofs.Ytamljpeicecbjaa.Leaf.tL 7 3 1 (Go.Proofs.Ytamljpeicecbjaa.Leaf.csA 6 3 1 2) = true := by kernel_rfl
theorem i_6_4_0_2 : Go.Proofs.Ytamljpeicecbjaa.Leaf.tL 7 4 0 (Go.Proofs.Ytamljpeicecbjaa.Leaf.csA 6 4 0 2) = true := by kernel_rfl
theorem i_6_4_5_2 : Go.Proofs.Ytamljpeicecbjaa.Leaf.tL 7 4 5 (Go.Proofs.Ytamljpeicecbjaa.Leaf.csA 6 4 5 2) = true := by kernel_rfl
theorem i_6_5_3_2 : Go.Proofs.Ytamljpeicecbjaa.Leaf.tL 7 5 3 (Go.Proofs.Ytamljpeicecbjaa.Leaf.csA 6 5 3 2) = true := by kernel_rfl
theorem o_1_2 : Go.Proofs.Ytamljpeicecbjaa.Leaf.tL 2 0 0 (Go.Proofs.Ytamljpeicecbjaa.Leaf.csO 1 2) = true := by kernel_rfl
theorem o_2_3 : Go.Proofs.Ytamljpeicecbjaa.Leaf.tL 3 0 0 (Go.Proofs.Ytamljpeicecbjaa.Leaf.csO 2 3) = true := by kernel_rfl
theorem o_3_3 : Go.Proofs.Ytamljpeicecbjaa.Leaf.tL 4 0 0 (Go.Proofs.Ytamljpeicecbjaa.Leaf.csO 3 3) = true := by kernel_rfl
theorem o_5_0 : Go.Proofs.Ytamljpeicecbjaa.Leaf.tL 6 0 0 (Go.Proofs.Ytamljpeicecbjaa.Leaf.csO 5 0) = true := by kernel_rfl
theorem o_6_3 : Go.Proofs.Ytamljpeicecbjaa.Leaf.tL 7 0 0 (Go.Proofs.Ytamljpeicecbjaa.Leaf.csO 6 3) = true := by kernel_rfl
end Go.Proofs.Ytamljpeicecbjaa.fnExactLadderOf
