/- Ways of a law: the tree that the executor reckons is true at each leaf. No condition. -/
import Derived.Test.YtfaamogbkekjcaaRows
import Derived.Test.YtfaamogbkekjcaaEb
import Derived.WalkKit
import Derived.ProofKit
import Derived.OpenShut
import Derived.ShutString
import Derived.ChangeOld
namespace Go.Proofs.Ytfaamogbkekjcaa.fnExactAllDrops
set_option maxRecDepth 100000
theorem t_2_false : Go.Proofs.Ytfaamogbkekjcaa.Leaf.tE 2 (Go.Proofs.Ytfaamogbkekjcaa.Leaf.csQ 2 false) = true := by kernel_rfl
theorem t_4_false : Go.Proofs.Ytfaamogbkekjcaa.Leaf.tE 4 (Go.Proofs.Ytfaamogbkekjcaa.Leaf.csQ 4 false) = true := by kernel_rfl
theorem t_6_false : Go.Proofs.Ytfaamogbkekjcaa.Leaf.tE 6 (Go.Proofs.Ytfaamogbkekjcaa.Leaf.csQ 6 false) = true := by kernel_rfl
theorem t_b : Go.Proofs.Ytfaamogbkekjcaa.Leaf.tE 1 Go.Proofs.Ytfaamogbkekjcaa.Leaf.csL7 = true := by kernel_rfl
end Go.Proofs.Ytfaamogbkekjcaa.fnExactAllDrops
