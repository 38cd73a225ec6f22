/- Ways of a law: the tree that the executor reckons is true at each leaf. No condition. -/
import Derived.Test.YtfaamogbkekjcaaRows
import Derived.Test.YtfaamogbkekjcaaEb
import Derived.WalkKit
import Derived.ProofKit
import Derived.OpenShut
import Derived.ShutString
import Derived.ChangeOld
namespace Go.Proofs.Ytfaamogbkekjcaa.fnExactAllDrops
set_option maxRecDepth 100000
theorem t_2_true : Go.Proofs.Ytfaamogbkekjcaa.Leaf.tE 2 (Go.Proofs.Ytfaamogbkekjcaa.Leaf.csQ 2 true) = true := by kernel_rfl
theorem t_4_true : Go.Proofs.Ytfaamogbkekjcaa.Leaf.tE 4 (Go.Proofs.Ytfaamogbkekjcaa.Leaf.csQ 4 true) = true := by kernel_rfl
theorem t_6_true : Go.Proofs.Ytfaamogbkekjcaa.Leaf.tE 6 (Go.Proofs.Ytfaamogbkekjcaa.Leaf.csQ 6 true) = true := by kernel_rfl
theorem t_a : Go.Proofs.Ytfaamogbkekjcaa.Leaf.tE 1 Go.Proofs.Ytfaamogbkekjcaa.Leaf.csL0 = true := by kernel_rfl
end Go.Proofs.Ytfaamogbkekjcaa.fnExactAllDrops
