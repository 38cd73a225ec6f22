/- The drops for parts: the kernel's facts for 5 pigments. No condition. -/
import Derived.Test.YtamljpeicecbjaaD0
set_option linter.unusedVariables false
set_option linter.unusedSimpArgs false
set_option maxRecDepth 100000
noncomputable section
namespace Go.Proofs.Ytamljpeicecbjaa.Leaf
open Go.Sx
theorem pu_5 : ((PD 5).under (bldP (paD 5) 0 0).n && (PD 5).appsLt 945) = true := by kernel_rfl
theorem cl_5 : (DL 5 plI).closed (13 + 34 * 5) = true := by kernel_rfl
theorem pj_5_0 : (Nat.ble (bldP (paD 5) 0 0).j 1000 && undersF (bldP (paD 5) 0 0).n (asD 5 0)) = true := by kernel_rfl
theorem pk_5_0 : (treeIs rpD (oI 5 0) (PD 5) && treeIs rpD (oS 5 0) (PD 5)) = true := by kernel_rfl
theorem pj_5_1 : (Nat.ble (bldP (paD 5) 0 0).j 1000 && undersF (bldP (paD 5) 0 0).n (asD 5 1)) = true := by kernel_rfl
theorem pk_5_1 : (treeIs rpD (oI 5 1) (PD 5) && treeIs rpD (oS 5 1) (PD 5)) = true := by kernel_rfl
theorem pj_5_2 : (Nat.ble (bldP (paD 5) 0 0).j 1000 && undersF (bldP (paD 5) 0 0).n (asD 5 2)) = true := by kernel_rfl
theorem pk_5_2 : (treeIs rpD (oI 5 2) (PD 5) && treeIs rpD (oS 5 2) (PD 5)) = true := by kernel_rfl
theorem pj_5_3 : (Nat.ble (bldP (paD 5) 0 0).j 1000 && undersF (bldP (paD 5) 0 0).n (asD 5 3)) = true := by kernel_rfl
theorem pk_5_3 : (treeIs rpD (oI 5 3) (PD 5) && treeIs rpD (oS 5 3) (PD 5)) = true := by kernel_rfl
theorem pj_5_4 : (Nat.ble (bldP (paD 5) 0 0).j 1000 && undersF (bldP (paD 5) 0 0).n (asD 5 4)) = true := by kernel_rfl
theorem pk_5_4 : (treeIs rpD (oI 5 4) (PD 5) && treeIs rpD (oS 5 4) (PD 5)) = true := by kernel_rfl
end Go.Proofs.Ytamljpeicecbjaa.Leaf
