/- Is it matched? The kernel's facts for 5 pigments. No condition. -/
import Derived.Test.YtamljpeicecbjaaIp
set_option linter.unusedVariables false
set_option linter.unusedSimpArgs false
set_option maxRecDepth 100000
noncomputable section
namespace Go.Proofs.Ytamljpeicecbjaa.Leaf
open Go.Sx
theorem ia_5 : treeIs rpI (oII 5) (ID 5) = true := by kernel_rfl
end Go.Proofs.Ytamljpeicecbjaa.Leaf
