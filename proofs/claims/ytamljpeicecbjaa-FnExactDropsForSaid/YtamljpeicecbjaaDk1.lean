/- The drops for parts: the kernel's facts for 1, 2, 3 pigments. No condition. -/
import Derived.Test.YtamljpeicecbjaaD0
set_option linter.unusedVariables false
set_option linter.unusedSimpArgs false
set_option maxRecDepth 100000
noncomputable section
namespace Go.Proofs.Ytamljpeicecbjaa.Leaf
open Go.Sx
theorem pu_1 : ((PD 1).under (bldP (paD 1) 0 0).n && (PD 1).appsLt 941) = true := by kernel_rfl
theorem cl_1 : (DL 1 plI).closed (13 + 34 * 1) = true := by kernel_rfl
theorem pj_1_0 : (Nat.ble (bldP (paD 1) 0 0).j 1000 && undersF (bldP (paD 1) 0 0).n (asD 1 0)) = true := by kernel_rfl
theorem pk_1_0 : (treeIs rpD (oI 1 0) (PD 1) && treeIs rpD (oS 1 0) (PD 1)) = true := by kernel_rfl
theorem pu_2 : ((PD 2).under (bldP (paD 2) 0 0).n && (PD 2).appsLt 942) = true := by kernel_rfl
theorem cl_2 : (DL 2 plI).closed (13 + 34 * 2) = true := by kernel_rfl
theorem pj_2_0 : (Nat.ble (bldP (paD 2) 0 0).j 1000 && undersF (bldP (paD 2) 0 0).n (asD 2 0)) = true := by kernel_rfl
theorem pk_2_0 : (treeIs rpD (oI 2 0) (PD 2) && treeIs rpD (oS 2 0) (PD 2)) = true := by kernel_rfl
theorem pj_2_1 : (Nat.ble (bldP (paD 2) 0 0).j 1000 && undersF (bldP (paD 2) 0 0).n (asD 2 1)) = true := by kernel_rfl
theorem pk_2_1 : (treeIs rpD (oI 2 1) (PD 2) && treeIs rpD (oS 2 1) (PD 2)) = true := by kernel_rfl
theorem pu_3 : ((PD 3).under (bldP (paD 3) 0 0).n && (PD 3).appsLt 943) = true := by kernel_rfl
theorem cl_3 : (DL 3 plI).closed (13 + 34 * 3) = true := by kernel_rfl
theorem pj_3_0 : (Nat.ble (bldP (paD 3) 0 0).j 1000 && undersF (bldP (paD 3) 0 0).n (asD 3 0)) = true := by kernel_rfl
theorem pk_3_0 : (treeIs rpD (oI 3 0) (PD 3) && treeIs rpD (oS 3 0) (PD 3)) = true := by kernel_rfl
theorem pj_3_1 : (Nat.ble (bldP (paD 3) 0 0).j 1000 && undersF (bldP (paD 3) 0 0).n (asD 3 1)) = true := by kernel_rfl
theorem pk_3_1 : (treeIs rpD (oI 3 1) (PD 3) && treeIs rpD (oS 3 1) (PD 3)) = true := by kernel_rfl
theorem pj_3_2 : (Nat.ble (bldP (paD 3) 0 0).j 1000 && undersF (bldP (paD 3) 0 0).n (asD 3 2)) = true := by kernel_rfl
theorem pk_3_2 : (treeIs rpD (oI 3 2) (PD 3) && treeIs rpD (oS 3 2) (PD 3)) = true := by kernel_rfl
end Go.Proofs.Ytamljpeicecbjaa.Leaf
