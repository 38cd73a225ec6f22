/- What the program and the reference reckon of a mixture of 1 pigments: the same term. No condition. -/
import Derived.Test.YtfdpcmijifdfeaaGreatMcD
set_option linter.unusedVariables false
set_option linter.unusedSimpArgs false
set_option maxRecDepth 100000
noncomputable section
namespace Go.Proofs.YtfdpcmijifdfeaaGreat.Leaf
open Go.Sx
theorem mu_1 : (shT 1).under (6 + 34 * 1) = true := by kernel_rfl
theorem mj_1 : ((Nat.ble (bldP [.ptS 1 pgs t6, .agg f6] 0 0).j 1000 && undersF (bldP [.ptS 1 pgs t6, .agg f6] 0 0).n (asM 1)) && ((DM 1).under (bldP [.ptS 1 pgs t6, .agg f6] 0 0).n && Nat.beq 34 (sizeR rpL.2))) = true := by kernel_rfl
theorem mi_1 : ((Nat.ble (bldP [.aggS 1 pgs t6, .agg f6] 0 0).j 1000 && undersF (bldP [.aggS 1 pgs t6, .agg f6] 0 0).n (asM 1)) && ((DM 1).under (bldP [.aggS 1 pgs t6, .agg f6] 0 0).n && Nat.beq 34 (sizeR rpL.2))) = true := by kernel_rfl
theorem m157_1 : treeIs rpL (callQ Tryz.prog cm2 1000 99 [.ptS 1 pgs t6, .agg f6] []) (DA 1) = true := by kernel_rfl
theorem m69_1 : treeIs rpL (callQ Tryz.prog cmx 1000 106 [.aggS 1 pgs t6, .agg f6] (asM 1)) (DM 1) = true := by kernel_rfl
end Go.Proofs.YtfdpcmijifdfeaaGreat.Leaf
set_option linter.unusedVariables false
set_option linter.unusedSimpArgs false
set_option maxRecDepth 100000
noncomputable section
namespace Go.Proofs.YtfdpcmijifdfeaaGreat.Leaf
open Go.Sx
theorem mu_2 : (shT 2).under (6 + 34 * 2) = true := by kernel_rfl
theorem mj_2 : ((Nat.ble (bldP [.ptS 2 pgs t6, .agg f6] 0 0).j 1000 && undersF (bldP [.ptS 2 pgs t6, .agg f6] 0 0).n (asM 2)) && ((DM 2).under (bldP [.ptS 2 pgs t6, .agg f6] 0 0).n && Nat.beq 34 (sizeR rpL.2))) = true := by kernel_rfl
theorem mi_2 : ((Nat.ble (bldP [.aggS 2 pgs t6, .agg f6] 0 0).j 1000 && undersF (bldP [.aggS 2 pgs t6, .agg f6] 0 0).n (asM 2)) && ((DM 2).under (bldP [.aggS 2 pgs t6, .agg f6] 0 0).n && Nat.beq 34 (sizeR rpL.2))) = true := by kernel_rfl
theorem m157_2 : treeIs rpL (callQ Tryz.prog cm2 1000 99 [.ptS 2 pgs t6, .agg f6] []) (DA 2) = true := by kernel_rfl
theorem m69_2 : treeIs rpL (callQ Tryz.prog cmx 1000 106 [.aggS 2 pgs t6, .agg f6] (asM 2)) (DM 2) = true := by kernel_rfl
end Go.Proofs.YtfdpcmijifdfeaaGreat.Leaf
set_option linter.unusedVariables false
set_option linter.unusedSimpArgs false
set_option maxRecDepth 100000
noncomputable section
namespace Go.Proofs.YtfdpcmijifdfeaaGreat.Leaf
open Go.Sx
theorem mu_3 : (shT 3).under (6 + 34 * 3) = true := by kernel_rfl
theorem mj_3 : ((Nat.ble (bldP [.ptS 3 pgs t6, .agg f6] 0 0).j 1000 && undersF (bldP [.ptS 3 pgs t6, .agg f6] 0 0).n (asM 3)) && ((DM 3).under (bldP [.ptS 3 pgs t6, .agg f6] 0 0).n && Nat.beq 34 (sizeR rpL.2))) = true := by kernel_rfl
theorem mi_3 : ((Nat.ble (bldP [.aggS 3 pgs t6, .agg f6] 0 0).j 1000 && undersF (bldP [.aggS 3 pgs t6, .agg f6] 0 0).n (asM 3)) && ((DM 3).under (bldP [.aggS 3 pgs t6, .agg f6] 0 0).n && Nat.beq 34 (sizeR rpL.2))) = true := by kernel_rfl
theorem m157_3 : treeIs rpL (callQ Tryz.prog cm2 1000 99 [.ptS 3 pgs t6, .agg f6] []) (DA 3) = true := by kernel_rfl
theorem m69_3 : treeIs rpL (callQ Tryz.prog cmx 1000 106 [.aggS 3 pgs t6, .agg f6] (asM 3)) (DM 3) = true := by kernel_rfl
end Go.Proofs.YtfdpcmijifdfeaaGreat.Leaf
