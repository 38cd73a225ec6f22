/- Is it matched? The kernel's facts for 6 pigments. No condition. -/
import Derived.Test.YtamljpeicecbjaaIp
set_option linter.unusedVariables false
set_option linter.unusedSimpArgs false
set_option maxRecDepth 100000
noncomputable section
namespace Go.Proofs.Ytamljpeicecbjaa.Leaf
open Go.Sx
theorem ia_6 : treeIs rpI (oII 6) (ID 6) = true := by kernel_rfl
end Go.Proofs.Ytamljpeicecbjaa.Leaf
