/- Cases of the ladder law: the tree that the executor reckons is true at each leaf. No condition. -/
import Derived.Test.YtamljpeicecbjaaRows
import Derived.Test.YtamljpeicecbjaaLa
import Derived.Test.YtamljpeicecbjaaDoor
import Derived.WalkKit
import Derived.ProofKit
import Derived.OpenShut
import Derived.ShutString
import Derived.ChangeOld
namespace Go.Proofs.Ytamljpeicecbjaa.fnExactLadderOf
set_option maxRecDepth 100000
theorem c_1_0_0 : (Go.Proofs.Ytamljpeicecbjaa.Leaf.LS 1 0 0 0 0).closed (9 + 34 * 1) = true := by kernel_rfl
theorem c_3_0_1 : (Go.Proofs.Ytamljpeicecbjaa.Leaf.LS 3 0 1 0 0).closed (9 + 34 * 3) = true := by kernel_rfl
theorem c_3_2_1 : (Go.Proofs.Ytamljpeicecbjaa.Leaf.LS 3 2 1 0 0).closed (9 + 34 * 3) = true := by kernel_rfl
theorem c_4_1_0 : (Go.Proofs.Ytamljpeicecbjaa.Leaf.LS 4 1 0 0 0).closed (9 + 34 * 4) = true := by kernel_rfl
theorem c_4_2_2 : (Go.Proofs.Ytamljpeicecbjaa.Leaf.LS 4 2 2 0 0).closed (9 + 34 * 4) = true := by kernel_rfl
theorem c_5_0_3 : (Go.Proofs.Ytamljpeicecbjaa.Leaf.LS 5 0 3 0 0).closed (9 + 34 * 5) = true := by kernel_rfl
theorem c_5_2_2 : (Go.Proofs.Ytamljpeicecbjaa.Leaf.LS 5 2 2 0 0).closed (9 + 34 * 5) = true := by kernel_rfl
theorem c_5_4_4 : (Go.Proofs.Ytamljpeicecbjaa.Leaf.LS 5 4 4 0 0).closed (9 + 34 * 5) = true := by kernel_rfl
theorem c_6_1_5 : (Go.Proofs.Ytamljpeicecbjaa.Leaf.LS 6 1 5 0 0).closed (9 + 34 * 6) = true := by kernel_rfl
theorem c_6_3_5 : (Go.Proofs.Ytamljpeicecbjaa.Leaf.LS 6 3 5 0 0).closed (9 + 34 * 6) = true := by kernel_rfl
theorem c_6_5_5 : (Go.Proofs.Ytamljpeicecbjaa.Leaf.LS 6 5 5 0 0).closed (9 + 34 * 6) = true := by kernel_rfl
theorem i_3_2_0_0 : Go.Proofs.Ytamljpeicecbjaa.Leaf.tL 4 2 0 (Go.Proofs.Ytamljpeicecbjaa.Leaf.csA 3 2 0 0) = true := by kernel_rfl
theorem i_4_0_1_0 : Go.Proofs.Ytamljpeicecbjaa.Leaf.tL 5 0 1 (Go.Proofs.Ytamljpeicecbjaa.Leaf.csA 4 0 1 0) = true := by kernel_rfl
theorem i_4_0_3_0 : Go.Proofs.Ytamljpeicecbjaa.Leaf.tL 5 0 3 (Go.Proofs.Ytamljpeicecbjaa.Leaf.csA 4 0 3 0) = true := by kernel_rfl
theorem i_4_2_0_0 : Go.Proofs.Ytamljpeicecbjaa.Leaf.tL 5 2 0 (Go.Proofs.Ytamljpeicecbjaa.Leaf.csA 4 2 0 0) = true := by kernel_rfl
theorem i_4_3_1_0 : Go.Proofs.Ytamljpeicecbjaa.Leaf.tL 5 3 1 (Go.Proofs.Ytamljpeicecbjaa.Leaf.csA 4 3 1 0) = true := by kernel_rfl
theorem i_5_1_0_0 : Go.Proofs.Ytamljpeicecbjaa.Leaf.tL 6 1 0 (Go.Proofs.Ytamljpeicecbjaa.Leaf.csA 5 1 0 0) = true := by kernel_rfl
theorem i_5_2_0_0 : Go.Proofs.Ytamljpeicecbjaa.Leaf.tL 6 2 0 (Go.Proofs.Ytamljpeicecbjaa.Leaf.csA 5 2 0 0) = true := by kernel_rfl
theorem i_5_3_0_0 : Go.Proofs.Ytamljpeicecbjaa.Leaf.tL 6 3 0 (Go.Proofs.Ytamljpeicecbjaa.Leaf.csA 5 3 0 0) = true := by kernel_rfl
theorem i_5_4_0_0 : Go.Proofs.Ytamljpeicecbjaa.Leaf.tL 6 4 0 (Go.Proofs.Ytamljpeicecbjaa.Leaf.csA 5 4 0 0) = true := by kernel_rfl
theorem i_6_0_1_0 : Go.Proofs.Ytamljpeicecbjaa.Leaf.tL 7 0 1 (Go.Proofs.Ytamljpeicecbjaa.Leaf.csA 6 0 1 0) = true := by kernel_rfl
theorem i_6_0_5_0 : Go.Proofs.Ytamljpeicecbjaa.Leaf.tL 7 0 5 (Go.Proofs.Ytamljpeicecbjaa.Leaf.csA 6 0 5 0) = true := by kernel_rfl
theorem i_6_1_4_0 : Go.Proofs.Ytamljpeicecbjaa.Leaf.tL 7 1 4 (Go.Proofs.Ytamljpeicecbjaa.Leaf.csA 6 1 4 0) = true := by kernel_rfl
theorem i_6_2_3_0 : Go.Proofs.Ytamljpeicecbjaa.Leaf.tL 7 2 3 (Go.Proofs.Ytamljpeicecbjaa.Leaf.csA 6 2 3 0) = true := by kernel_rfl
theorem i_6_3_1_0 : Go.Proofs.Ytamljpeicecbjaa.Leaf.tL 7 3 1 (Go.Proofs.Ytamljpeicecbjaa.Leaf.csA 6 3 1 0) = true := by kernel_rfl
theorem i_6_4_0_0 : Go.Proofs.Ytamljpeicecbjaa.Leaf.tL 7 4 0 (Go.Proofs.Ytamljpeicecbjaa.Leaf.csA 6 4 0 0) = true := by kernel_rfl
theorem i_6_4_5_0 : Go.Proofs.Ytamljpeicecbjaa.Leaf.tL 7 4 5 (Go.Proofs.Ytamljpeicecbjaa.Leaf.csA 6 4 5 0) = true := by kernel_rfl
theorem i_6_5_3_0 : Go.Proofs.Ytamljpeicecbjaa.Leaf.tL 7 5 3 (Go.Proofs.Ytamljpeicecbjaa.Leaf.csA 6 5 3 0) = true := by kernel_rfl
theorem j_4_2_2 : Go.Proofs.Ytamljpeicecbjaa.Leaf.tL 5 2 2 (Go.Proofs.Ytamljpeicecbjaa.Leaf.csL 4 2 2) = true := by kernel_rfl
theorem o_1_0 : Go.Proofs.Ytamljpeicecbjaa.Leaf.tL 2 0 0 (Go.Proofs.Ytamljpeicecbjaa.Leaf.csO 1 0) = true := by kernel_rfl
theorem o_2_1 : Go.Proofs.Ytamljpeicecbjaa.Leaf.tL 3 0 0 (Go.Proofs.Ytamljpeicecbjaa.Leaf.csO 2 1) = true := by kernel_rfl
theorem o_3_1 : Go.Proofs.Ytamljpeicecbjaa.Leaf.tL 4 0 0 (Go.Proofs.Ytamljpeicecbjaa.Leaf.csO 3 1) = true := by kernel_rfl
theorem o_6_1 : Go.Proofs.Ytamljpeicecbjaa.Leaf.tL 7 0 0 (Go.Proofs.Ytamljpeicecbjaa.Leaf.csO 6 1) = true := by kernel_rfl
end Go.Proofs.Ytamljpeicecbjaa.fnExactLadderOf
