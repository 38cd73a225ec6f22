/- Ways of a law: the tree that the executor reckons is true at each leaf. No condition. -/
import Derived.Test.YtfaamogbkekjcaaRows
import Derived.Test.YtfaamogbkekjcaaEb
import Derived.WalkKit
import Derived.ProofKit
import Derived.OpenShut
import Derived.ShutString
import Derived.ChangeOld
namespace Go.Proofs.Ytfaamogbkekjcaa.fnExactAllDrops
set_option maxRecDepth 100000
theorem t_1 : Go.Proofs.Ytfaamogbkekjcaa.Leaf.tE 1 (Go.Proofs.Ytfaamogbkekjcaa.Leaf.csE 1) = true := by kernel_rfl
theorem t_3_false : Go.Proofs.Ytfaamogbkekjcaa.Leaf.tE 3 (Go.Proofs.Ytfaamogbkekjcaa.Leaf.csQ 3 false) = true := by kernel_rfl
theorem t_3_true : Go.Proofs.Ytfaamogbkekjcaa.Leaf.tE 3 (Go.Proofs.Ytfaamogbkekjcaa.Leaf.csQ 3 true) = true := by kernel_rfl
theorem t_5_false : Go.Proofs.Ytfaamogbkekjcaa.Leaf.tE 5 (Go.Proofs.Ytfaamogbkekjcaa.Leaf.csQ 5 false) = true := by kernel_rfl
theorem t_5_true : Go.Proofs.Ytfaamogbkekjcaa.Leaf.tE 5 (Go.Proofs.Ytfaamogbkekjcaa.Leaf.csQ 5 true) = true := by kernel_rfl
end Go.Proofs.Ytfaamogbkekjcaa.fnExactAllDrops
