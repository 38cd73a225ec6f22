/- What the program and the reference reckon of a mixture of 2 pigments: the same term. No condition. -/
import Derived.Test.YtamljpeicecbjaaGreatMcD
set_option linter.unusedVariables false
set_option linter.unusedSimpArgs false
set_option maxRecDepth 100000
noncomputable section
namespace Go.Proofs.YtamljpeicecbjaaGreat.Leaf
open Go.Sx
theorem mu_2 : (shT 2).under (6 + 34 * 2) = true := by kernel_rfl
theorem mj_2 : ((Nat.ble (bldP [.ptS 2 pgs t6, .agg f6] 0 0).j 1000 && undersF (bldP [.ptS 2 pgs t6, .agg f6] 0 0).n (asM 2)) && ((DM 2).under (bldP [.ptS 2 pgs t6, .agg f6] 0 0).n && Nat.beq 34 (sizeR rpL.2))) = true := by kernel_rfl
theorem mi_2 : ((Nat.ble (bldP [.aggS 2 pgs t6, .agg f6] 0 0).j 1000 && undersF (bldP [.aggS 2 pgs t6, .agg f6] 0 0).n (asM 2)) && ((DM 2).under (bldP [.aggS 2 pgs t6, .agg f6] 0 0).n && Nat.beq 34 (sizeR rpL.2))) = true := by kernel_rfl
theorem m157_2 : treeIs rpL (callQ Tryz.prog cm2 1000 99 [.ptS 2 pgs t6, .agg f6] []) (DA 2) = true := by kernel_rfl
theorem m69_2 : treeIs rpL (callQ Tryz.prog cmx 1000 103 [.aggS 2 pgs t6, .agg f6] (asM 2)) (DM 2) = true := by kernel_rfl
end Go.Proofs.YtamljpeicecbjaaGreat.Leaf
