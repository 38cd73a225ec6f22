/- The drops for parts: the kernel's facts for 4 pigments. No condition. -/
import Derived.Test.YtamljpeicecbjaaD0
set_option linter.unusedVariables false
set_option linter.unusedSimpArgs false
set_option maxRecDepth 100000
noncomputable section
namespace Go.Proofs.Ytamljpeicecbjaa.Leaf
open Go.Sx
theorem pu_4 : ((PD 4).under (bldP (paD 4) 0 0).n && (PD 4).appsLt 944) = true := by kernel_rfl
theorem cl_4 : (DL 4 plI).closed (13 + 34 * 4) = true := by kernel_rfl
theorem pj_4_0 : (Nat.ble (bldP (paD 4) 0 0).j 1000 && undersF (bldP (paD 4) 0 0).n (asD 4 0)) = true := by kernel_rfl
theorem pk_4_0 : (treeIs rpD (oI 4 0) (PD 4) && treeIs rpD (oS 4 0) (PD 4)) = true := by kernel_rfl
theorem pj_4_1 : (Nat.ble (bldP (paD 4) 0 0).j 1000 && undersF (bldP (paD 4) 0 0).n (asD 4 1)) = true := by kernel_rfl
theorem pk_4_1 : (treeIs rpD (oI 4 1) (PD 4) && treeIs rpD (oS 4 1) (PD 4)) = true := by kernel_rfl
theorem pj_4_2 : (Nat.ble (bldP (paD 4) 0 0).j 1000 && undersF (bldP (paD 4) 0 0).n (asD 4 2)) = true := by kernel_rfl
theorem pk_4_2 : (treeIs rpD (oI 4 2) (PD 4) && treeIs rpD (oS 4 2) (PD 4)) = true := by kernel_rfl
theorem pj_4_3 : (Nat.ble (bldP (paD 4) 0 0).j 1000 && undersF (bldP (paD 4) 0 0).n (asD 4 3)) = true := by kernel_rfl
theorem pk_4_3 : (treeIs rpD (oI 4 3) (PD 4) && treeIs rpD (oS 4 3) (PD 4)) = true := by kernel_rfl
end Go.Proofs.Ytamljpeicecbjaa.Leaf
