/- Is it matched? The kernel's facts for 1, 2, 3 pigments. No condition. -/
import Derived.Test.YtamljpeicecbjaaIp
set_option linter.unusedVariables false
set_option linter.unusedSimpArgs false
set_option maxRecDepth 100000
noncomputable section
namespace Go.Proofs.Ytamljpeicecbjaa.Leaf
open Go.Sx
theorem iu_1 : (((ID 1).under (bldP (paI 1) 0 0).n && Nat.beq 2 (sizeR rpI.2)) && (ID 1).appsLt 271) = true := by kernel_rfl
theorem ij_1 : (Nat.ble (bldP (paI 1) 0 0).j 1000 && undersF (bldP (paI 1) 0 0).n (okI 1)) = true := by kernel_rfl
theorem is_1 : treeIs rpI (oIS 1) (ID 1) = true := by kernel_rfl
theorem ia_1 : treeIs rpI (oII 1) (ID 1) = true := by kernel_rfl
theorem iu_2 : (((ID 2).under (bldP (paI 2) 0 0).n && Nat.beq 2 (sizeR rpI.2)) && (ID 2).appsLt 272) = true := by kernel_rfl
theorem ij_2 : (Nat.ble (bldP (paI 2) 0 0).j 1000 && undersF (bldP (paI 2) 0 0).n (okI 2)) = true := by kernel_rfl
theorem is_2 : treeIs rpI (oIS 2) (ID 2) = true := by kernel_rfl
theorem ia_2 : treeIs rpI (oII 2) (ID 2) = true := by kernel_rfl
theorem iu_3 : (((ID 3).under (bldP (paI 3) 0 0).n && Nat.beq 2 (sizeR rpI.2)) && (ID 3).appsLt 273) = true := by kernel_rfl
theorem ij_3 : (Nat.ble (bldP (paI 3) 0 0).j 1000 && undersF (bldP (paI 3) 0 0).n (okI 3)) = true := by kernel_rfl
theorem is_3 : treeIs rpI (oIS 3) (ID 3) = true := by kernel_rfl
theorem ia_3 : treeIs rpI (oII 3) (ID 3) = true := by kernel_rfl
end Go.Proofs.Ytamljpeicecbjaa.Leaf
set_option linter.unusedVariables false
set_option linter.unusedSimpArgs false
set_option maxRecDepth 100000
noncomputable section
namespace Go.Proofs.Ytamljpeicecbjaa.Leaf
open Go.Sx
theorem iu_4 : (((ID 4).under (bldP (paI 4) 0 0).n && Nat.beq 2 (sizeR rpI.2)) && (ID 4).appsLt 274) = true := by kernel_rfl
theorem ij_4 : (Nat.ble (bldP (paI 4) 0 0).j 1000 && undersF (bldP (paI 4) 0 0).n (okI 4)) = true := by kernel_rfl
theorem is_4 : treeIs rpI (oIS 4) (ID 4) = true := by kernel_rfl
theorem ia_4 : treeIs rpI (oII 4) (ID 4) = true := by kernel_rfl
end Go.Proofs.Ytamljpeicecbjaa.Leaf
