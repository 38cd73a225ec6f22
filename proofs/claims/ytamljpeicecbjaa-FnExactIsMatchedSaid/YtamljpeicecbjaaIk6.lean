/- Is it matched? The kernel's facts for 6 pigments. No condition. -/
import Derived.Test.YtamljpeicecbjaaIp
set_option linter.unusedVariables false
set_option linter.unusedSimpArgs false
set_option maxRecDepth 100000
noncomputable section
namespace Go.Proofs.Ytamljpeicecbjaa.Leaf
open Go.Sx
theorem iu_6 : (((ID 6).under (bldP (paI 6) 0 0).n && Nat.beq 2 (sizeR rpI.2)) && (ID 6).appsLt 276) = true := by kernel_rfl
theorem ij_6 : (Nat.ble (bldP (paI 6) 0 0).j 1000 && undersF (bldP (paI 6) 0 0).n (okI 6)) = true := by kernel_rfl
theorem is_6 : treeIs rpI (oIS 6) (ID 6) = true := by kernel_rfl
end Go.Proofs.Ytamljpeicecbjaa.Leaf
