/- Cases of the ladder law: the tree that the executor reckons is true at each leaf. No condition. -/
import Derived.Test.YtamljpeicecbjaaRows
import Derived.Test.YtamljpeicecbjaaLa
import Derived.Test.YtamljpeicecbjaaDoor
import Derived.WalkKit
import Derived.ProofKit
import Derived.OpenShut
import Derived.ShutString
import Derived.ChangeOld
namespace Go.Proofs.Ytamljpeicecbjaa.fnExactLadderOf
set_option maxRecDepth 100000
theorem c_2_1_0 : (Go.Proofs.Ytamljpeicecbjaa.Leaf.LS 2 1 0 0 0).closed (9 + 34 * 2) = true := by kernel_rfl
theorem c_3_1_1 : (Go.Proofs.Ytamljpeicecbjaa.Leaf.LS 3 1 1 0 0).closed (9 + 34 * 3) = true := by kernel_rfl
theorem c_4_0_1 : (Go.Proofs.Ytamljpeicecbjaa.Leaf.LS 4 0 1 0 0).closed (9 + 34 * 4) = true := by kernel_rfl
theorem c_4_1_3 : (Go.Proofs.Ytamljpeicecbjaa.Leaf.LS 4 1 3 0 0).closed (9 + 34 * 4) = true := by kernel_rfl
theorem c_4_3_1 : (Go.Proofs.Ytamljpeicecbjaa.Leaf.LS 4 3 1 0 0).closed (9 + 34 * 4) = true := by kernel_rfl
theorem c_5_1_1 : (Go.Proofs.Ytamljpeicecbjaa.Leaf.LS 5 1 1 0 0).closed (9 + 34 * 5) = true := by kernel_rfl
theorem c_5_3_0 : (Go.Proofs.Ytamljpeicecbjaa.Leaf.LS 5 3 0 0 0).closed (9 + 34 * 5) = true := by kernel_rfl
theorem c_6_0_2 : (Go.Proofs.Ytamljpeicecbjaa.Leaf.LS 6 0 2 0 0).closed (9 + 34 * 6) = true := by kernel_rfl
theorem c_6_2_2 : (Go.Proofs.Ytamljpeicecbjaa.Leaf.LS 6 2 2 0 0).closed (9 + 34 * 6) = true := by kernel_rfl
theorem c_6_4_2 : (Go.Proofs.Ytamljpeicecbjaa.Leaf.LS 6 4 2 0 0).closed (9 + 34 * 6) = true := by kernel_rfl
theorem i_3_2_1_0 : Go.Proofs.Ytamljpeicecbjaa.Leaf.tL 4 2 1 (Go.Proofs.Ytamljpeicecbjaa.Leaf.csA 3 2 1 0) = true := by kernel_rfl
theorem i_4_0_2_0 : Go.Proofs.Ytamljpeicecbjaa.Leaf.tL 5 0 2 (Go.Proofs.Ytamljpeicecbjaa.Leaf.csA 4 0 2 0) = true := by kernel_rfl
theorem i_4_1_0_0 : Go.Proofs.Ytamljpeicecbjaa.Leaf.tL 5 1 0 (Go.Proofs.Ytamljpeicecbjaa.Leaf.csA 4 1 0 0) = true := by kernel_rfl
theorem i_4_2_1_0 : Go.Proofs.Ytamljpeicecbjaa.Leaf.tL 5 2 1 (Go.Proofs.Ytamljpeicecbjaa.Leaf.csA 4 2 1 0) = true := by kernel_rfl
theorem i_4_3_2_0 : Go.Proofs.Ytamljpeicecbjaa.Leaf.tL 5 3 2 (Go.Proofs.Ytamljpeicecbjaa.Leaf.csA 4 3 2 0) = true := by kernel_rfl
theorem i_5_1_2_0 : Go.Proofs.Ytamljpeicecbjaa.Leaf.tL 6 1 2 (Go.Proofs.Ytamljpeicecbjaa.Leaf.csA 5 1 2 0) = true := by kernel_rfl
theorem i_5_2_1_0 : Go.Proofs.Ytamljpeicecbjaa.Leaf.tL 6 2 1 (Go.Proofs.Ytamljpeicecbjaa.Leaf.csA 5 2 1 0) = true := by kernel_rfl
theorem i_5_3_1_0 : Go.Proofs.Ytamljpeicecbjaa.Leaf.tL 6 3 1 (Go.Proofs.Ytamljpeicecbjaa.Leaf.csA 5 3 1 0) = true := by kernel_rfl
theorem i_5_4_1_0 : Go.Proofs.Ytamljpeicecbjaa.Leaf.tL 6 4 1 (Go.Proofs.Ytamljpeicecbjaa.Leaf.csA 5 4 1 0) = true := by kernel_rfl
theorem i_6_0_2_0 : Go.Proofs.Ytamljpeicecbjaa.Leaf.tL 7 0 2 (Go.Proofs.Ytamljpeicecbjaa.Leaf.csA 6 0 2 0) = true := by kernel_rfl
theorem i_6_1_0_0 : Go.Proofs.Ytamljpeicecbjaa.Leaf.tL 7 1 0 (Go.Proofs.Ytamljpeicecbjaa.Leaf.csA 6 1 0 0) = true := by kernel_rfl
theorem i_6_1_5_0 : Go.Proofs.Ytamljpeicecbjaa.Leaf.tL 7 1 5 (Go.Proofs.Ytamljpeicecbjaa.Leaf.csA 6 1 5 0) = true := by kernel_rfl
theorem i_6_2_4_0 : Go.Proofs.Ytamljpeicecbjaa.Leaf.tL 7 2 4 (Go.Proofs.Ytamljpeicecbjaa.Leaf.csA 6 2 4 0) = true := by kernel_rfl
theorem i_6_3_2_0 : Go.Proofs.Ytamljpeicecbjaa.Leaf.tL 7 3 2 (Go.Proofs.Ytamljpeicecbjaa.Leaf.csA 6 3 2 0) = true := by kernel_rfl
theorem i_6_4_1_0 : Go.Proofs.Ytamljpeicecbjaa.Leaf.tL 7 4 1 (Go.Proofs.Ytamljpeicecbjaa.Leaf.csA 6 4 1 0) = true := by kernel_rfl
theorem i_6_5_0_0 : Go.Proofs.Ytamljpeicecbjaa.Leaf.tL 7 5 0 (Go.Proofs.Ytamljpeicecbjaa.Leaf.csA 6 5 0 0) = true := by kernel_rfl
theorem i_6_5_4_0 : Go.Proofs.Ytamljpeicecbjaa.Leaf.tL 7 5 4 (Go.Proofs.Ytamljpeicecbjaa.Leaf.csA 6 5 4 0) = true := by kernel_rfl
theorem j_2_0_0 : Go.Proofs.Ytamljpeicecbjaa.Leaf.tL 3 0 0 (Go.Proofs.Ytamljpeicecbjaa.Leaf.csL 2 0 0) = true := by kernel_rfl
theorem j_3_0_0 : Go.Proofs.Ytamljpeicecbjaa.Leaf.tL 4 0 0 (Go.Proofs.Ytamljpeicecbjaa.Leaf.csL 3 0 0) = true := by kernel_rfl
theorem j_6_0_0 : Go.Proofs.Ytamljpeicecbjaa.Leaf.tL 7 0 0 (Go.Proofs.Ytamljpeicecbjaa.Leaf.csL 6 0 0) = true := by kernel_rfl
theorem o_1_3 : Go.Proofs.Ytamljpeicecbjaa.Leaf.tL 2 0 0 (Go.Proofs.Ytamljpeicecbjaa.Leaf.csO 1 3) = true := by kernel_rfl
theorem o_5_1 : Go.Proofs.Ytamljpeicecbjaa.Leaf.tL 6 0 0 (Go.Proofs.Ytamljpeicecbjaa.Leaf.csO 5 1) = true := by kernel_rfl
end Go.Proofs.Ytamljpeicecbjaa.fnExactLadderOf
