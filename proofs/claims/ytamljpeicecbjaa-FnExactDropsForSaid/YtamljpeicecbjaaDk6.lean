/- The drops for parts: the kernel's facts for 6 pigments. No condition. -/
import Derived.Test.YtamljpeicecbjaaD0
set_option linter.unusedVariables false
set_option linter.unusedSimpArgs false
set_option maxRecDepth 100000
noncomputable section
namespace Go.Proofs.Ytamljpeicecbjaa.Leaf
open Go.Sx
theorem pu_6 : ((PD 6).under (bldP (paD 6) 0 0).n && (PD 6).appsLt 946) = true := by kernel_rfl
theorem cl_6 : (DL 6 plI).closed (13 + 34 * 6) = true := by kernel_rfl
theorem pj_6_0 : (Nat.ble (bldP (paD 6) 0 0).j 1000 && undersF (bldP (paD 6) 0 0).n (asD 6 0)) = true := by kernel_rfl
theorem pk_6_0 : (treeIs rpD (oI 6 0) (PD 6) && treeIs rpD (oS 6 0) (PD 6)) = true := by kernel_rfl
theorem pj_6_1 : (Nat.ble (bldP (paD 6) 0 0).j 1000 && undersF (bldP (paD 6) 0 0).n (asD 6 1)) = true := by kernel_rfl
theorem pk_6_1 : (treeIs rpD (oI 6 1) (PD 6) && treeIs rpD (oS 6 1) (PD 6)) = true := by kernel_rfl
theorem pj_6_2 : (Nat.ble (bldP (paD 6) 0 0).j 1000 && undersF (bldP (paD 6) 0 0).n (asD 6 2)) = true := by kernel_rfl
theorem pk_6_2 : (treeIs rpD (oI 6 2) (PD 6) && treeIs rpD (oS 6 2) (PD 6)) = true := by kernel_rfl
theorem pj_6_3 : (Nat.ble (bldP (paD 6) 0 0).j 1000 && undersF (bldP (paD 6) 0 0).n (asD 6 3)) = true := by kernel_rfl
theorem pk_6_3 : (treeIs rpD (oI 6 3) (PD 6) && treeIs rpD (oS 6 3) (PD 6)) = true := by kernel_rfl
theorem pj_6_4 : (Nat.ble (bldP (paD 6) 0 0).j 1000 && undersF (bldP (paD 6) 0 0).n (asD 6 4)) = true := by kernel_rfl
theorem pk_6_4 : (treeIs rpD (oI 6 4) (PD 6) && treeIs rpD (oS 6 4) (PD 6)) = true := by kernel_rfl
theorem pj_6_5 : (Nat.ble (bldP (paD 6) 0 0).j 1000 && undersF (bldP (paD 6) 0 0).n (asD 6 5)) = true := by kernel_rfl
theorem pk_6_5 : (treeIs rpD (oI 6 5) (PD 6) && treeIs rpD (oS 6 5) (PD 6)) = true := by kernel_rfl
end Go.Proofs.Ytamljpeicecbjaa.Leaf
