/- What the program and the reference reckon of a mixture of 5 pigments: the same term. No condition. -/
import Derived.Test.YtfdpcmijifdfeaaGreatMcD
set_option linter.unusedVariables false
set_option linter.unusedSimpArgs false
set_option maxRecDepth 100000
noncomputable section
namespace Go.Proofs.YtfdpcmijifdfeaaGreat.Leaf
open Go.Sx
theorem mu_5 : (shT 5).under (6 + 34 * 5) = true := by kernel_rfl
theorem mj_5 : ((Nat.ble (bldP [.ptS 5 pgs t6, .agg f6] 0 0).j 1000 && undersF (bldP [.ptS 5 pgs t6, .agg f6] 0 0).n (asM 5)) && ((DM 5).under (bldP [.ptS 5 pgs t6, .agg f6] 0 0).n && Nat.beq 34 (sizeR rpL.2))) = true := by kernel_rfl
theorem mi_5 : ((Nat.ble (bldP [.aggS 5 pgs t6, .agg f6] 0 0).j 1000 && undersF (bldP [.aggS 5 pgs t6, .agg f6] 0 0).n (asM 5)) && ((DM 5).under (bldP [.aggS 5 pgs t6, .agg f6] 0 0).n && Nat.beq 34 (sizeR rpL.2))) = true := by kernel_rfl
theorem m157_5 : treeIs rpL (callQ Tryz.prog cm2 1000 99 [.ptS 5 pgs t6, .agg f6] []) (DA 5) = true := by kernel_rfl
theorem m69_5 : treeIs rpL (callQ Tryz.prog cmx 1000 106 [.aggS 5 pgs t6, .agg f6] (asM 5)) (DM 5) = true := by kernel_rfl
end Go.Proofs.YtfdpcmijifdfeaaGreat.Leaf
