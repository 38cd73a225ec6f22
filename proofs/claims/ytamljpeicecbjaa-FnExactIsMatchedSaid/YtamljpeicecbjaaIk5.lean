/- Is it matched? The kernel's facts for 5 pigments. No condition. -/
import Derived.Test.YtamljpeicecbjaaIp
set_option linter.unusedVariables false
set_option linter.unusedSimpArgs false
set_option maxRecDepth 100000
noncomputable section
namespace Go.Proofs.Ytamljpeicecbjaa.Leaf
open Go.Sx
theorem iu_5 : (((ID 5).under (bldP (paI 5) 0 0).n && Nat.beq 2 (sizeR rpI.2)) && (ID 5).appsLt 275) = true := by kernel_rfl
theorem ij_5 : (Nat.ble (bldP (paI 5) 0 0).j 1000 && undersF (bldP (paI 5) 0 0).n (okI 5)) = true := by kernel_rfl
theorem is_5 : treeIs rpI (oIS 5) (ID 5) = true := by kernel_rfl
end Go.Proofs.Ytamljpeicecbjaa.Leaf
