/- What the program and the reference reckon of a mixture of 6 pigments: the same term. No condition. -/
import Derived.Test.YtfdpcmijifdfeaaGreatMcD
set_option linter.unusedVariables false
set_option linter.unusedSimpArgs false
set_option maxRecDepth 100000
noncomputable section
namespace Go.Proofs.YtfdpcmijifdfeaaGreat.Leaf
open Go.Sx
theorem mu_6 : (shT 6).under (6 + 34 * 6) = true := by kernel_rfl
theorem mj_6 : ((Nat.ble (bldP [.ptS 6 pgs t6, .agg f6] 0 0).j 1000 && undersF (bldP [.ptS 6 pgs t6, .agg f6] 0 0).n (asM 6)) && ((DM 6).under (bldP [.ptS 6 pgs t6, .agg f6] 0 0).n && Nat.beq 34 (sizeR rpL.2))) = true := by kernel_rfl
theorem mi_6 : ((Nat.ble (bldP [.aggS 6 pgs t6, .agg f6] 0 0).j 1000 && undersF (bldP [.aggS 6 pgs t6, .agg f6] 0 0).n (asM 6)) && ((DM 6).under (bldP [.aggS 6 pgs t6, .agg f6] 0 0).n && Nat.beq 34 (sizeR rpL.2))) = true := by kernel_rfl
theorem m157_6 : treeIs rpL (callQ Tryz.prog cm2 1000 99 [.ptS 6 pgs t6, .agg f6] []) (DA 6) = true := by kernel_rfl
theorem m69_6 : treeIs rpL (callQ Tryz.prog cmx 1000 106 [.aggS 6 pgs t6, .agg f6] (asM 6)) (DM 6) = true := by kernel_rfl
end Go.Proofs.YtfdpcmijifdfeaaGreat.Leaf
