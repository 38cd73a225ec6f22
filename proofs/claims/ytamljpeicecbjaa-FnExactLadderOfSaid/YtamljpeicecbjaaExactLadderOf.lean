/- 'FnExactLadderOf': for every way in which a slice may come, the tree that the executor reckons of the law is true at each leaf; the row's frame. No condition. -/
import Derived.Test.YtamljpeicecbjaaLxA
import Derived.Test.YtamljpeicecbjaaLxB
import Derived.Test.YtamljpeicecbjaaLxC
import Derived.Test.YtamljpeicecbjaaLxD
import Derived.Test.YtamljpeicecbjaaLxE
import Derived.Test.YtamljpeicecbjaaLxF
import Derived.Test.YtamljpeicecbjaaLxG
import Derived.Test.YtamljpeicecbjaaLxH
import Derived.Test.YtamljpeicecbjaaLxI
import Derived.Test.YtamljpeicecbjaaLxJ
import Derived.Test.YtamljpeicecbjaaLxK
import Derived.Test.YtamljpeicecbjaaLxL
import Derived.Test.YtamljpeicecbjaaRows
import Derived.Test.YtamljpeicecbjaaLa
import Derived.Test.YtamljpeicecbjaaDoor
import Derived.WalkKit
import Derived.ProofKit
import Derived.OpenShut
import Derived.ShutString
import Derived.ChangeOld
namespace Go.Proofs.Ytamljpeicecbjaa.fnExactLadderOf
open Go.ChangeShapes Go.WideShapes Go.ChangeAt Go.RowKit
set_option linter.unusedVariables false
set_option maxRecDepth 100000

theorem own : ownKnob Try.prog.godebug = none := by kernel_rfl
theorem laidOut : laidOutB Try.prog = true := by kernel_rfl
theorem named : (Try.prog.funcs.toList.all fun fn => !(fn.name == "runtime.NumGoroutine")) = true := by kernel_rfl
theorem mixed : Try.prog.follows .mixedOrders = true := by kernel_rfl
theorem rowsOf : (Go.Sx.cksAll Try.prog [36, 2, 2, 2]).map (fun x => Go.Sx.rows x.1) = some 1 := by kernel_rfl
theorem o_1 : ∀ q, q < 4 → Go.Proofs.Ytamljpeicecbjaa.Leaf.tL (1 + 1) 0 0 (Go.Proofs.Ytamljpeicecbjaa.Leaf.csO 1 q) = true := fun q hq => match q, hq with
  | 0, _ => o_1_0
  | 1, _ => o_1_1
  | 2, _ => o_1_2
  | 3, _ => o_1_3
theorem c_1 : ∀ j k, j < 1 → k < 1 → (Go.Proofs.Ytamljpeicecbjaa.Leaf.LS 1 j k 0 0).closed (9 + 34 * 1) = true := fun j k hj hk => match j, k, hj, hk with
  | 0, 0, _, _ => c_1_0_0
theorem j_1 : ∀ j k, j < 1 → k < 1 → j = k → Go.Proofs.Ytamljpeicecbjaa.Leaf.tL (1 + 1) j k (Go.Proofs.Ytamljpeicecbjaa.Leaf.csL 1 j k) = true := fun j k hj hk e => match j, k, hj, hk, e with
  | 0, 0, _, _, _ => j_1_0_0
theorem i_1 : ∀ j k q, j < 1 → k < 1 → j ≠ k → q < 3 → Go.Proofs.Ytamljpeicecbjaa.Leaf.tL (1 + 1) j k (Go.Proofs.Ytamljpeicecbjaa.Leaf.csA 1 j k q) = true := fun j k q hj hk e hq => match j, k, q, hj, hk, e, hq with
  | 0, 0, _, _, _, e, _ => absurd rfl e
theorem o_2 : ∀ q, q < 4 → Go.Proofs.Ytamljpeicecbjaa.Leaf.tL (2 + 1) 0 0 (Go.Proofs.Ytamljpeicecbjaa.Leaf.csO 2 q) = true := fun q hq => match q, hq with
  | 0, _ => o_2_0
  | 1, _ => o_2_1
  | 2, _ => o_2_2
  | 3, _ => o_2_3
theorem c_2 : ∀ j k, j < 2 → k < 2 → (Go.Proofs.Ytamljpeicecbjaa.Leaf.LS 2 j k 0 0).closed (9 + 34 * 2) = true := fun j k hj hk => match j, k, hj, hk with
  | 0, 0, _, _ => c_2_0_0
  | 0, 1, _, _ => c_2_0_1
  | 1, 0, _, _ => c_2_1_0
  | 1, 1, _, _ => c_2_1_1
theorem j_2 : ∀ j k, j < 2 → k < 2 → j = k → Go.Proofs.Ytamljpeicecbjaa.Leaf.tL (2 + 1) j k (Go.Proofs.Ytamljpeicecbjaa.Leaf.csL 2 j k) = true := fun j k hj hk e => match j, k, hj, hk, e with
  | 0, 0, _, _, _ => j_2_0_0
  | 1, 1, _, _, _ => j_2_1_1
  | 0, 1, _, _, e => absurd e (by decide)
  | 1, 0, _, _, e => absurd e (by decide)
theorem i_2 : ∀ j k q, j < 2 → k < 2 → j ≠ k → q < 3 → Go.Proofs.Ytamljpeicecbjaa.Leaf.tL (2 + 1) j k (Go.Proofs.Ytamljpeicecbjaa.Leaf.csA 2 j k q) = true := fun j k q hj hk e hq => match j, k, q, hj, hk, e, hq with
  | 0, 1, 0, _, _, _, _ => i_2_0_1_0
  | 0, 1, 1, _, _, _, _ => i_2_0_1_1
  | 0, 1, 2, _, _, _, _ => i_2_0_1_2
  | 1, 0, 0, _, _, _, _ => i_2_1_0_0
  | 1, 0, 1, _, _, _, _ => i_2_1_0_1
  | 1, 0, 2, _, _, _, _ => i_2_1_0_2
  | 0, 0, _, _, _, e, _ => absurd rfl e
  | 1, 1, _, _, _, e, _ => absurd rfl e
theorem o_3 : ∀ q, q < 4 → Go.Proofs.Ytamljpeicecbjaa.Leaf.tL (3 + 1) 0 0 (Go.Proofs.Ytamljpeicecbjaa.Leaf.csO 3 q) = true := fun q hq => match q, hq with
  | 0, _ => o_3_0
  | 1, _ => o_3_1
  | 2, _ => o_3_2
  | 3, _ => o_3_3
theorem c_3 : ∀ j k, j < 3 → k < 3 → (Go.Proofs.Ytamljpeicecbjaa.Leaf.LS 3 j k 0 0).closed (9 + 34 * 3) = true := fun j k hj hk => match j, k, hj, hk with
  | 0, 0, _, _ => c_3_0_0
  | 0, 1, _, _ => c_3_0_1
  | 0, 2, _, _ => c_3_0_2
  | 1, 0, _, _ => c_3_1_0
  | 1, 1, _, _ => c_3_1_1
  | 1, 2, _, _ => c_3_1_2
  | 2, 0, _, _ => c_3_2_0
  | 2, 1, _, _ => c_3_2_1
  | 2, 2, _, _ => c_3_2_2
theorem j_3 : ∀ j k, j < 3 → k < 3 → j = k → Go.Proofs.Ytamljpeicecbjaa.Leaf.tL (3 + 1) j k (Go.Proofs.Ytamljpeicecbjaa.Leaf.csL 3 j k) = true := fun j k hj hk e => match j, k, hj, hk, e with
  | 0, 0, _, _, _ => j_3_0_0
  | 1, 1, _, _, _ => j_3_1_1
  | 2, 2, _, _, _ => j_3_2_2
  | 0, 1, _, _, e => absurd e (by decide)
  | 0, 2, _, _, e => absurd e (by decide)
  | 1, 0, _, _, e => absurd e (by decide)
  | 1, 2, _, _, e => absurd e (by decide)
  | 2, 0, _, _, e => absurd e (by decide)
  | 2, 1, _, _, e => absurd e (by decide)
theorem i_3 : ∀ j k q, j < 3 → k < 3 → j ≠ k → q < 3 → Go.Proofs.Ytamljpeicecbjaa.Leaf.tL (3 + 1) j k (Go.Proofs.Ytamljpeicecbjaa.Leaf.csA 3 j k q) = true := fun j k q hj hk e hq => match j, k, q, hj, hk, e, hq with
  | 0, 1, 0, _, _, _, _ => i_3_0_1_0
  | 0, 1, 1, _, _, _, _ => i_3_0_1_1
  | 0, 1, 2, _, _, _, _ => i_3_0_1_2
  | 0, 2, 0, _, _, _, _ => i_3_0_2_0
  | 0, 2, 1, _, _, _, _ => i_3_0_2_1
  | 0, 2, 2, _, _, _, _ => i_3_0_2_2
  | 1, 0, 0, _, _, _, _ => i_3_1_0_0
  | 1, 0, 1, _, _, _, _ => i_3_1_0_1
  | 1, 0, 2, _, _, _, _ => i_3_1_0_2
  | 1, 2, 0, _, _, _, _ => i_3_1_2_0
  | 1, 2, 1, _, _, _, _ => i_3_1_2_1
  | 1, 2, 2, _, _, _, _ => i_3_1_2_2
  | 2, 0, 0, _, _, _, _ => i_3_2_0_0
  | 2, 0, 1, _, _, _, _ => i_3_2_0_1
  | 2, 0, 2, _, _, _, _ => i_3_2_0_2
  | 2, 1, 0, _, _, _, _ => i_3_2_1_0
  | 2, 1, 1, _, _, _, _ => i_3_2_1_1
  | 2, 1, 2, _, _, _, _ => i_3_2_1_2
  | 0, 0, _, _, _, e, _ => absurd rfl e
  | 1, 1, _, _, _, e, _ => absurd rfl e
  | 2, 2, _, _, _, e, _ => absurd rfl e
theorem o_4 : ∀ q, q < 4 → Go.Proofs.Ytamljpeicecbjaa.Leaf.tL (4 + 1) 0 0 (Go.Proofs.Ytamljpeicecbjaa.Leaf.csO 4 q) = true := fun q hq => match q, hq with
  | 0, _ => o_4_0
  | 1, _ => o_4_1
  | 2, _ => o_4_2
  | 3, _ => o_4_3
theorem c_4 : ∀ j k, j < 4 → k < 4 → (Go.Proofs.Ytamljpeicecbjaa.Leaf.LS 4 j k 0 0).closed (9 + 34 * 4) = true := fun j k hj hk => match j, k, hj, hk with
  | 0, 0, _, _ => c_4_0_0
  | 0, 1, _, _ => c_4_0_1
  | 0, 2, _, _ => c_4_0_2
  | 0, 3, _, _ => c_4_0_3
  | 1, 0, _, _ => c_4_1_0
  | 1, 1, _, _ => c_4_1_1
  | 1, 2, _, _ => c_4_1_2
  | 1, 3, _, _ => c_4_1_3
  | 2, 0, _, _ => c_4_2_0
  | 2, 1, _, _ => c_4_2_1
  | 2, 2, _, _ => c_4_2_2
  | 2, 3, _, _ => c_4_2_3
  | 3, 0, _, _ => c_4_3_0
  | 3, 1, _, _ => c_4_3_1
  | 3, 2, _, _ => c_4_3_2
  | 3, 3, _, _ => c_4_3_3
theorem j_4 : ∀ j k, j < 4 → k < 4 → j = k → Go.Proofs.Ytamljpeicecbjaa.Leaf.tL (4 + 1) j k (Go.Proofs.Ytamljpeicecbjaa.Leaf.csL 4 j k) = true := fun j k hj hk e => match j, k, hj, hk, e with
  | 0, 0, _, _, _ => j_4_0_0
  | 1, 1, _, _, _ => j_4_1_1
  | 2, 2, _, _, _ => j_4_2_2
  | 3, 3, _, _, _ => j_4_3_3
  | 0, 1, _, _, e => absurd e (by decide)
  | 0, 2, _, _, e => absurd e (by decide)
  | 0, 3, _, _, e => absurd e (by decide)
  | 1, 0, _, _, e => absurd e (by decide)
  | 1, 2, _, _, e => absurd e (by decide)
  | 1, 3, _, _, e => absurd e (by decide)
  | 2, 0, _, _, e => absurd e (by decide)
  | 2, 1, _, _, e => absurd e (by decide)
  | 2, 3, _, _, e => absurd e (by decide)
  | 3, 0, _, _, e => absurd e (by decide)
  | 3, 1, _, _, e => absurd e (by decide)
  | 3, 2, _, _, e => absurd e (by decide)
theorem i_4 : ∀ j k q, j < 4 → k < 4 → j ≠ k → q < 3 → Go.Proofs.Ytamljpeicecbjaa.Leaf.tL (4 + 1) j k (Go.Proofs.Ytamljpeicecbjaa.Leaf.csA 4 j k q) = true := fun j k q hj hk e hq => match j, k, q, hj, hk, e, hq with
  | 0, 1, 0, _, _, _, _ => i_4_0_1_0
  | 0, 1, 1, _, _, _, _ => i_4_0_1_1
  | 0, 1, 2, _, _, _, _ => i_4_0_1_2
  | 0, 2, 0, _, _, _, _ => i_4_0_2_0
  | 0, 2, 1, _, _, _, _ => i_4_0_2_1
  | 0, 2, 2, _, _, _, _ => i_4_0_2_2
  | 0, 3, 0, _, _, _, _ => i_4_0_3_0
  | 0, 3, 1, _, _, _, _ => i_4_0_3_1
  | 0, 3, 2, _, _, _, _ => i_4_0_3_2
  | 1, 0, 0, _, _, _, _ => i_4_1_0_0
  | 1, 0, 1, _, _, _, _ => i_4_1_0_1
  | 1, 0, 2, _, _, _, _ => i_4_1_0_2
  | 1, 2, 0, _, _, _, _ => i_4_1_2_0
  | 1, 2, 1, _, _, _, _ => i_4_1_2_1
  | 1, 2, 2, _, _, _, _ => i_4_1_2_2
  | 1, 3, 0, _, _, _, _ => i_4_1_3_0
  | 1, 3, 1, _, _, _, _ => i_4_1_3_1
  | 1, 3, 2, _, _, _, _ => i_4_1_3_2
  | 2, 0, 0, _, _, _, _ => i_4_2_0_0
  | 2, 0, 1, _, _, _, _ => i_4_2_0_1
  | 2, 0, 2, _, _, _, _ => i_4_2_0_2
  | 2, 1, 0, _, _, _, _ => i_4_2_1_0
  | 2, 1, 1, _, _, _, _ => i_4_2_1_1
  | 2, 1, 2, _, _, _, _ => i_4_2_1_2
  | 2, 3, 0, _, _, _, _ => i_4_2_3_0
  | 2, 3, 1, _, _, _, _ => i_4_2_3_1
  | 2, 3, 2, _, _, _, _ => i_4_2_3_2
  | 3, 0, 0, _, _, _, _ => i_4_3_0_0
  | 3, 0, 1, _, _, _, _ => i_4_3_0_1
  | 3, 0, 2, _, _, _, _ => i_4_3_0_2
  | 3, 1, 0, _, _, _, _ => i_4_3_1_0
  | 3, 1, 1, _, _, _, _ => i_4_3_1_1
  | 3, 1, 2, _, _, _, _ => i_4_3_1_2
  | 3, 2, 0, _, _, _, _ => i_4_3_2_0
  | 3, 2, 1, _, _, _, _ => i_4_3_2_1
  | 3, 2, 2, _, _, _, _ => i_4_3_2_2
  | 0, 0, _, _, _, e, _ => absurd rfl e
  | 1, 1, _, _, _, e, _ => absurd rfl e
  | 2, 2, _, _, _, e, _ => absurd rfl e
  | 3, 3, _, _, _, e, _ => absurd rfl e
theorem o_5 : ∀ q, q < 4 → Go.Proofs.Ytamljpeicecbjaa.Leaf.tL (5 + 1) 0 0 (Go.Proofs.Ytamljpeicecbjaa.Leaf.csO 5 q) = true := fun q hq => match q, hq with
  | 0, _ => o_5_0
  | 1, _ => o_5_1
  | 2, _ => o_5_2
  | 3, _ => o_5_3
theorem c_5 : ∀ j k, j < 5 → k < 5 → (Go.Proofs.Ytamljpeicecbjaa.Leaf.LS 5 j k 0 0).closed (9 + 34 * 5) = true := fun j k hj hk => match j, k, hj, hk with
  | 0, 0, _, _ => c_5_0_0
  | 0, 1, _, _ => c_5_0_1
  | 0, 2, _, _ => c_5_0_2
  | 0, 3, _, _ => c_5_0_3
  | 0, 4, _, _ => c_5_0_4
  | 1, 0, _, _ => c_5_1_0
  | 1, 1, _, _ => c_5_1_1
  | 1, 2, _, _ => c_5_1_2
  | 1, 3, _, _ => c_5_1_3
  | 1, 4, _, _ => c_5_1_4
  | 2, 0, _, _ => c_5_2_0
  | 2, 1, _, _ => c_5_2_1
  | 2, 2, _, _ => c_5_2_2
  | 2, 3, _, _ => c_5_2_3
  | 2, 4, _, _ => c_5_2_4
  | 3, 0, _, _ => c_5_3_0
  | 3, 1, _, _ => c_5_3_1
  | 3, 2, _, _ => c_5_3_2
  | 3, 3, _, _ => c_5_3_3
  | 3, 4, _, _ => c_5_3_4
  | 4, 0, _, _ => c_5_4_0
  | 4, 1, _, _ => c_5_4_1
  | 4, 2, _, _ => c_5_4_2
  | 4, 3, _, _ => c_5_4_3
  | 4, 4, _, _ => c_5_4_4
theorem j_5 : ∀ j k, j < 5 → k < 5 → j = k → Go.Proofs.Ytamljpeicecbjaa.Leaf.tL (5 + 1) j k (Go.Proofs.Ytamljpeicecbjaa.Leaf.csL 5 j k) = true := fun j k hj hk e => match j, k, hj, hk, e with
  | 0, 0, _, _, _ => j_5_0_0
  | 1, 1, _, _, _ => j_5_1_1
  | 2, 2, _, _, _ => j_5_2_2
  | 3, 3, _, _, _ => j_5_3_3
  | 4, 4, _, _, _ => j_5_4_4
  | 0, 1, _, _, e => absurd e (by decide)
  | 0, 2, _, _, e => absurd e (by decide)
  | 0, 3, _, _, e => absurd e (by decide)
  | 0, 4, _, _, e => absurd e (by decide)
  | 1, 0, _, _, e => absurd e (by decide)
  | 1, 2, _, _, e => absurd e (by decide)
  | 1, 3, _, _, e => absurd e (by decide)
  | 1, 4, _, _, e => absurd e (by decide)
  | 2, 0, _, _, e => absurd e (by decide)
  | 2, 1, _, _, e => absurd e (by decide)
  | 2, 3, _, _, e => absurd e (by decide)
  | 2, 4, _, _, e => absurd e (by decide)
  | 3, 0, _, _, e => absurd e (by decide)
  | 3, 1, _, _, e => absurd e (by decide)
  | 3, 2, _, _, e => absurd e (by decide)
  | 3, 4, _, _, e => absurd e (by decide)
  | 4, 0, _, _, e => absurd e (by decide)
  | 4, 1, _, _, e => absurd e (by decide)
  | 4, 2, _, _, e => absurd e (by decide)
  | 4, 3, _, _, e => absurd e (by decide)
theorem i_5 : ∀ j k q, j < 5 → k < 5 → j ≠ k → q < 3 → Go.Proofs.Ytamljpeicecbjaa.Leaf.tL (5 + 1) j k (Go.Proofs.Ytamljpeicecbjaa.Leaf.csA 5 j k q) = true := fun j k q hj hk e hq => match j, k, q, hj, hk, e, hq with
  | 0, 1, 0, _, _, _, _ => i_5_0_1_0
  | 0, 1, 1, _, _, _, _ => i_5_0_1_1
  | 0, 1, 2, _, _, _, _ => i_5_0_1_2
  | 0, 2, 0, _, _, _, _ => i_5_0_2_0
  | 0, 2, 1, _, _, _, _ => i_5_0_2_1
  | 0, 2, 2, _, _, _, _ => i_5_0_2_2
  | 0, 3, 0, _, _, _, _ => i_5_0_3_0
  | 0, 3, 1, _, _, _, _ => i_5_0_3_1
  | 0, 3, 2, _, _, _, _ => i_5_0_3_2
  | 0, 4, 0, _, _, _, _ => i_5_0_4_0
  | 0, 4, 1, _, _, _, _ => i_5_0_4_1
  | 0, 4, 2, _, _, _, _ => i_5_0_4_2
  | 1, 0, 0, _, _, _, _ => i_5_1_0_0
  | 1, 0, 1, _, _, _, _ => i_5_1_0_1
  | 1, 0, 2, _, _, _, _ => i_5_1_0_2
  | 1, 2, 0, _, _, _, _ => i_5_1_2_0
  | 1, 2, 1, _, _, _, _ => i_5_1_2_1
  | 1, 2, 2, _, _, _, _ => i_5_1_2_2
  | 1, 3, 0, _, _, _, _ => i_5_1_3_0
  | 1, 3, 1, _, _, _, _ => i_5_1_3_1
  | 1, 3, 2, _, _, _, _ => i_5_1_3_2
  | 1, 4, 0, _, _, _, _ => i_5_1_4_0
  | 1, 4, 1, _, _, _, _ => i_5_1_4_1
  | 1, 4, 2, _, _, _, _ => i_5_1_4_2
  | 2, 0, 0, _, _, _, _ => i_5_2_0_0
  | 2, 0, 1, _, _, _, _ => i_5_2_0_1
  | 2, 0, 2, _, _, _, _ => i_5_2_0_2
  | 2, 1, 0, _, _, _, _ => i_5_2_1_0
  | 2, 1, 1, _, _, _, _ => i_5_2_1_1
  | 2, 1, 2, _, _, _, _ => i_5_2_1_2
  | 2, 3, 0, _, _, _, _ => i_5_2_3_0
  | 2, 3, 1, _, _, _, _ => i_5_2_3_1
  | 2, 3, 2, _, _, _, _ => i_5_2_3_2
  | 2, 4, 0, _, _, _, _ => i_5_2_4_0
  | 2, 4, 1, _, _, _, _ => i_5_2_4_1
  | 2, 4, 2, _, _, _, _ => i_5_2_4_2
  | 3, 0, 0, _, _, _, _ => i_5_3_0_0
  | 3, 0, 1, _, _, _, _ => i_5_3_0_1
  | 3, 0, 2, _, _, _, _ => i_5_3_0_2
  | 3, 1, 0, _, _, _, _ => i_5_3_1_0
  | 3, 1, 1, _, _, _, _ => i_5_3_1_1
  | 3, 1, 2, _, _, _, _ => i_5_3_1_2
  | 3, 2, 0, _, _, _, _ => i_5_3_2_0
  | 3, 2, 1, _, _, _, _ => i_5_3_2_1
  | 3, 2, 2, _, _, _, _ => i_5_3_2_2
  | 3, 4, 0, _, _, _, _ => i_5_3_4_0
  | 3, 4, 1, _, _, _, _ => i_5_3_4_1
  | 3, 4, 2, _, _, _, _ => i_5_3_4_2
  | 4, 0, 0, _, _, _, _ => i_5_4_0_0
  | 4, 0, 1, _, _, _, _ => i_5_4_0_1
  | 4, 0, 2, _, _, _, _ => i_5_4_0_2
  | 4, 1, 0, _, _, _, _ => i_5_4_1_0
  | 4, 1, 1, _, _, _, _ => i_5_4_1_1
  | 4, 1, 2, _, _, _, _ => i_5_4_1_2
  | 4, 2, 0, _, _, _, _ => i_5_4_2_0
  | 4, 2, 1, _, _, _, _ => i_5_4_2_1
  | 4, 2, 2, _, _, _, _ => i_5_4_2_2
  | 4, 3, 0, _, _, _, _ => i_5_4_3_0
  | 4, 3, 1, _, _, _, _ => i_5_4_3_1
  | 4, 3, 2, _, _, _, _ => i_5_4_3_2
  | 0, 0, _, _, _, e, _ => absurd rfl e
  | 1, 1, _, _, _, e, _ => absurd rfl e
  | 2, 2, _, _, _, e, _ => absurd rfl e
  | 3, 3, _, _, _, e, _ => absurd rfl e
  | 4, 4, _, _, _, e, _ => absurd rfl e
theorem o_6 : ∀ q, q < 4 → Go.Proofs.Ytamljpeicecbjaa.Leaf.tL (6 + 1) 0 0 (Go.Proofs.Ytamljpeicecbjaa.Leaf.csO 6 q) = true := fun q hq => match q, hq with
  | 0, _ => o_6_0
  | 1, _ => o_6_1
  | 2, _ => o_6_2
  | 3, _ => o_6_3
theorem c_6 : ∀ j k, j < 6 → k < 6 → (Go.Proofs.Ytamljpeicecbjaa.Leaf.LS 6 j k 0 0).closed (9 + 34 * 6) = true := fun j k hj hk => match j, k, hj, hk with
  | 0, 0, _, _ => c_6_0_0
  | 0, 1, _, _ => c_6_0_1
  | 0, 2, _, _ => c_6_0_2
  | 0, 3, _, _ => c_6_0_3
  | 0, 4, _, _ => c_6_0_4
  | 0, 5, _, _ => c_6_0_5
  | 1, 0, _, _ => c_6_1_0
  | 1, 1, _, _ => c_6_1_1
  | 1, 2, _, _ => c_6_1_2
  | 1, 3, _, _ => c_6_1_3
  | 1, 4, _, _ => c_6_1_4
  | 1, 5, _, _ => c_6_1_5
  | 2, 0, _, _ => c_6_2_0
  | 2, 1, _, _ => c_6_2_1
  | 2, 2, _, _ => c_6_2_2
  | 2, 3, _, _ => c_6_2_3
  | 2, 4, _, _ => c_6_2_4
  | 2, 5, _, _ => c_6_2_5
  | 3, 0, _, _ => c_6_3_0
  | 3, 1, _, _ => c_6_3_1
  | 3, 2, _, _ => c_6_3_2
  | 3, 3, _, _ => c_6_3_3
  | 3, 4, _, _ => c_6_3_4
  | 3, 5, _, _ => c_6_3_5
  | 4, 0, _, _ => c_6_4_0
  | 4, 1, _, _ => c_6_4_1
  | 4, 2, _, _ => c_6_4_2
  | 4, 3, _, _ => c_6_4_3
  | 4, 4, _, _ => c_6_4_4
  | 4, 5, _, _ => c_6_4_5
  | 5, 0, _, _ => c_6_5_0
  | 5, 1, _, _ => c_6_5_1
  | 5, 2, _, _ => c_6_5_2
  | 5, 3, _, _ => c_6_5_3
  | 5, 4, _, _ => c_6_5_4
  | 5, 5, _, _ => c_6_5_5
theorem j_6 : ∀ j k, j < 6 → k < 6 → j = k → Go.Proofs.Ytamljpeicecbjaa.Leaf.tL (6 + 1) j k (Go.Proofs.Ytamljpeicecbjaa.Leaf.csL 6 j k) = true := fun j k hj hk e => match j, k, hj, hk, e with
  | 0, 0, _, _, _ => j_6_0_0
  | 1, 1, _, _, _ => j_6_1_1
  | 2, 2, _, _, _ => j_6_2_2
  | 3, 3, _, _, _ => j_6_3_3
  | 4, 4, _, _, _ => j_6_4_4
  | 5, 5, _, _, _ => j_6_5_5
  | 0, 1, _, _, e => absurd e (by decide)
  | 0, 2, _, _, e => absurd e (by decide)
  | 0, 3, _, _, e => absurd e (by decide)
  | 0, 4, _, _, e => absurd e (by decide)
  | 0, 5, _, _, e => absurd e (by decide)
  | 1, 0, _, _, e => absurd e (by decide)
  | 1, 2, _, _, e => absurd e (by decide)
  | 1, 3, _, _, e => absurd e (by decide)
  | 1, 4, _, _, e => absurd e (by decide)
  | 1, 5, _, _, e => absurd e (by decide)
  | 2, 0, _, _, e => absurd e (by decide)
  | 2, 1, _, _, e => absurd e (by decide)
  | 2, 3, _, _, e => absurd e (by decide)
  | 2, 4, _, _, e => absurd e (by decide)
  | 2, 5, _, _, e => absurd e (by decide)
  | 3, 0, _, _, e => absurd e (by decide)
  | 3, 1, _, _, e => absurd e (by decide)
  | 3, 2, _, _, e => absurd e (by decide)
  | 3, 4, _, _, e => absurd e (by decide)
  | 3, 5, _, _, e => absurd e (by decide)
  | 4, 0, _, _, e => absurd e (by decide)
  | 4, 1, _, _, e => absurd e (by decide)
  | 4, 2, _, _, e => absurd e (by decide)
  | 4, 3, _, _, e => absurd e (by decide)
  | 4, 5, _, _, e => absurd e (by decide)
  | 5, 0, _, _, e => absurd e (by decide)
  | 5, 1, _, _, e => absurd e (by decide)
  | 5, 2, _, _, e => absurd e (by decide)
  | 5, 3, _, _, e => absurd e (by decide)
  | 5, 4, _, _, e => absurd e (by decide)
theorem i_6 : ∀ j k q, j < 6 → k < 6 → j ≠ k → q < 3 → Go.Proofs.Ytamljpeicecbjaa.Leaf.tL (6 + 1) j k (Go.Proofs.Ytamljpeicecbjaa.Leaf.csA 6 j k q) = true := fun j k q hj hk e hq => match j, k, q, hj, hk, e, hq with
  | 0, 1, 0, _, _, _, _ => i_6_0_1_0
  | 0, 1, 1, _, _, _, _ => i_6_0_1_1
  | 0, 1, 2, _, _, _, _ => i_6_0_1_2
  | 0, 2, 0, _, _, _, _ => i_6_0_2_0
  | 0, 2, 1, _, _, _, _ => i_6_0_2_1
  | 0, 2, 2, _, _, _, _ => i_6_0_2_2
  | 0, 3, 0, _, _, _, _ => i_6_0_3_0
  | 0, 3, 1, _, _, _, _ => i_6_0_3_1
  | 0, 3, 2, _, _, _, _ => i_6_0_3_2
  | 0, 4, 0, _, _, _, _ => i_6_0_4_0
  | 0, 4, 1, _, _, _, _ => i_6_0_4_1
  | 0, 4, 2, _, _, _, _ => i_6_0_4_2
  | 0, 5, 0, _, _, _, _ => i_6_0_5_0
  | 0, 5, 1, _, _, _, _ => i_6_0_5_1
  | 0, 5, 2, _, _, _, _ => i_6_0_5_2
  | 1, 0, 0, _, _, _, _ => i_6_1_0_0
  | 1, 0, 1, _, _, _, _ => i_6_1_0_1
  | 1, 0, 2, _, _, _, _ => i_6_1_0_2
  | 1, 2, 0, _, _, _, _ => i_6_1_2_0
  | 1, 2, 1, _, _, _, _ => i_6_1_2_1
  | 1, 2, 2, _, _, _, _ => i_6_1_2_2
  | 1, 3, 0, _, _, _, _ => i_6_1_3_0
  | 1, 3, 1, _, _, _, _ => i_6_1_3_1
  | 1, 3, 2, _, _, _, _ => i_6_1_3_2
  | 1, 4, 0, _, _, _, _ => i_6_1_4_0
  | 1, 4, 1, _, _, _, _ => i_6_1_4_1
  | 1, 4, 2, _, _, _, _ => i_6_1_4_2
  | 1, 5, 0, _, _, _, _ => i_6_1_5_0
  | 1, 5, 1, _, _, _, _ => i_6_1_5_1
  | 1, 5, 2, _, _, _, _ => i_6_1_5_2
  | 2, 0, 0, _, _, _, _ => i_6_2_0_0
  | 2, 0, 1, _, _, _, _ => i_6_2_0_1
  | 2, 0, 2, _, _, _, _ => i_6_2_0_2
  | 2, 1, 0, _, _, _, _ => i_6_2_1_0
  | 2, 1, 1, _, _, _, _ => i_6_2_1_1
  | 2, 1, 2, _, _, _, _ => i_6_2_1_2
  | 2, 3, 0, _, _, _, _ => i_6_2_3_0
  | 2, 3, 1, _, _, _, _ => i_6_2_3_1
  | 2, 3, 2, _, _, _, _ => i_6_2_3_2
  | 2, 4, 0, _, _, _, _ => i_6_2_4_0
  | 2, 4, 1, _, _, _, _ => i_6_2_4_1
  | 2, 4, 2, _, _, _, _ => i_6_2_4_2
  | 2, 5, 0, _, _, _, _ => i_6_2_5_0
  | 2, 5, 1, _, _, _, _ => i_6_2_5_1
  | 2, 5, 2, _, _, _, _ => i_6_2_5_2
  | 3, 0, 0, _, _, _, _ => i_6_3_0_0
  | 3, 0, 1, _, _, _, _ => i_6_3_0_1
  | 3, 0, 2, _, _, _, _ => i_6_3_0_2
  | 3, 1, 0, _, _, _, _ => i_6_3_1_0
  | 3, 1, 1, _, _, _, _ => i_6_3_1_1
  | 3, 1, 2, _, _, _, _ => i_6_3_1_2
  | 3, 2, 0, _, _, _, _ => i_6_3_2_0
  | 3, 2, 1, _, _, _, _ => i_6_3_2_1
  | 3, 2, 2, _, _, _, _ => i_6_3_2_2
  | 3, 4, 0, _, _, _, _ => i_6_3_4_0
  | 3, 4, 1, _, _, _, _ => i_6_3_4_1
  | 3, 4, 2, _, _, _, _ => i_6_3_4_2
  | 3, 5, 0, _, _, _, _ => i_6_3_5_0
  | 3, 5, 1, _, _, _, _ => i_6_3_5_1
  | 3, 5, 2, _, _, _, _ => i_6_3_5_2
  | 4, 0, 0, _, _, _, _ => i_6_4_0_0
  | 4, 0, 1, _, _, _, _ => i_6_4_0_1
  | 4, 0, 2, _, _, _, _ => i_6_4_0_2
  | 4, 1, 0, _, _, _, _ => i_6_4_1_0
  | 4, 1, 1, _, _, _, _ => i_6_4_1_1
  | 4, 1, 2, _, _, _, _ => i_6_4_1_2
  | 4, 2, 0, _, _, _, _ => i_6_4_2_0
  | 4, 2, 1, _, _, _, _ => i_6_4_2_1
  | 4, 2, 2, _, _, _, _ => i_6_4_2_2
  | 4, 3, 0, _, _, _, _ => i_6_4_3_0
  | 4, 3, 1, _, _, _, _ => i_6_4_3_1
  | 4, 3, 2, _, _, _, _ => i_6_4_3_2
  | 4, 5, 0, _, _, _, _ => i_6_4_5_0
  | 4, 5, 1, _, _, _, _ => i_6_4_5_1
  | 4, 5, 2, _, _, _, _ => i_6_4_5_2
  | 5, 0, 0, _, _, _, _ => i_6_5_0_0
  | 5, 0, 1, _, _, _, _ => i_6_5_0_1
  | 5, 0, 2, _, _, _, _ => i_6_5_0_2
  | 5, 1, 0, _, _, _, _ => i_6_5_1_0
  | 5, 1, 1, _, _, _, _ => i_6_5_1_1
  | 5, 1, 2, _, _, _, _ => i_6_5_1_2
  | 5, 2, 0, _, _, _, _ => i_6_5_2_0
  | 5, 2, 1, _, _, _, _ => i_6_5_2_1
  | 5, 2, 2, _, _, _, _ => i_6_5_2_2
  | 5, 3, 0, _, _, _, _ => i_6_5_3_0
  | 5, 3, 1, _, _, _, _ => i_6_5_3_1
  | 5, 3, 2, _, _, _, _ => i_6_5_3_2
  | 5, 4, 0, _, _, _, _ => i_6_5_4_0
  | 5, 4, 1, _, _, _, _ => i_6_5_4_1
  | 5, 4, 2, _, _, _, _ => i_6_5_4_2
  | 0, 0, _, _, _, e, _ => absurd rfl e
  | 1, 1, _, _, _, e, _ => absurd rfl e
  | 2, 2, _, _, _, e, _ => absurd rfl e
  | 3, 3, _, _, _, e, _ => absurd rfl e
  | 4, 4, _, _, _, e, _ => absurd rfl e
  | 5, 5, _, _, _, e, _ => absurd rfl e
theorem trees (ws : List Nat) (h1 : ws.length = 1) (h2 : ∀ x, x ∈ ws → x ≤ 8) (E : Go.Sx.Env) (hE : E.fn = Go.Proofs.Ytamljpeicecbjaa.Leaf.FL) : Go.Sx.CaseOk Try.prog E 1000 28 6 [36, 2, 2, 2] ws 100000 [] := by
  have hF : Go.Proofs.Ytamljpeicecbjaa.Leaf.FokL E.fn := by rw [hE]; exact Go.Proofs.Ytamljpeicecbjaa.Leaf.FokL_FL
  match ws, h1 with
  | [x0], _ =>
    have hx0 := h2 x0 (by simp)
    match x0, hx0 with
    | 0, _ => exact Go.Proofs.Ytamljpeicecbjaa.Leaf.caseL0 hF t_0
    | 1, _ => exact Go.Proofs.Ytamljpeicecbjaa.Leaf.caseL0 hF t_1
    | 2, _ => exact Go.Proofs.Ytamljpeicecbjaa.Leaf.caseL hF (n := 1) (by decide) (by decide) c_1 o_1 j_1 i_1
    | 3, _ => exact Go.Proofs.Ytamljpeicecbjaa.Leaf.caseL hF (n := 2) (by decide) (by decide) c_2 o_2 j_2 i_2
    | 4, _ => exact Go.Proofs.Ytamljpeicecbjaa.Leaf.caseL hF (n := 3) (by decide) (by decide) c_3 o_3 j_3 i_3
    | 5, _ => exact Go.Proofs.Ytamljpeicecbjaa.Leaf.caseL hF (n := 4) (by decide) (by decide) c_4 o_4 j_4 i_4
    | 6, _ => exact Go.Proofs.Ytamljpeicecbjaa.Leaf.caseL hF (n := 5) (by decide) (by decide) c_5 o_5 j_5 i_5
    | 7, _ => exact Go.Proofs.Ytamljpeicecbjaa.Leaf.caseL hF (n := 6) (by decide) (by decide) c_6 o_6 j_6 i_6
    | 8, _ => exact Go.Proofs.Ytamljpeicecbjaa.Leaf.caseL0 hF t_8
    | n + 9, h => exact absurd h (by omega)

theorem lifted (os : Os) (started : os.Started) (H : Type) (enc : TypeId × Value → H) :
    ReturnsInHanded {} Try.checked os 28 .any (Rows.fnExactLadderOfSpec.pre6 enc Try.prog Try.f28 Rows.fnExactLadderOfRow.domain false) (Rows.fnExactLadderOfSpec.post enc Try.prog Try.f28 false true false false) := by
  refine returnsInHanded_of_change (C := Try.checked) own started (by kernel_rfl) Try.func28
    (ChangeSpec.witness6 (enc := enc) (C := Try.checked) false ⟨#[], #[.agg #[.slice none 0 0, .int .i32 0, .int .i32 0, .int .i32 0, .int .i32 0, .int .i32 0, .int .i32 0], .int .i64 0, .int .i64 0, .int .i64 0], []⟩ 8 (by kernel_rfl) (by kernel_rfl) (by kernel_rfl) (by kernel_rfl)) ?_
  intro W base args ds gs before hval0 hW hcnd _
  have hval : ∀ (j : Nat) t v, Try.f28.params[j]? = some t → args[j]? = some v → Value.okWide Try.prog W .any base t v := hval0
  have hW' := hW
  obtain ⟨p, q, hA0, hV, rfl, hfz, hnd⟩ := hW
  have hA : DataW.TrodAll enc Try.prog W 0 (fun _ => true) true Try.f28.params.toList args.toList ds p := hA0
  rw [Try.params28] at hA hval
  obtain ⟨rfl, rfl⟩ := trodVars_none hV
  have hA1 := hA
  obtain ⟨v0, vs0, d0, ds0, p0, q0, hargs, rfl, rfl, h0, r0⟩ := trodAll_cons hA
  obtain ⟨v1, vs1, d1, ds1, p1, q1, rfl, rfl, rfl, h1, r1⟩ := trodAll_cons r0
  obtain ⟨v2, vs2, d2, ds2, p2, q2, rfl, rfl, rfl, h2, r2⟩ := trodAll_cons r1
  obtain ⟨v3, vs3, d3, ds3, p3, q3, rfl, rfl, rfl, h3, r3⟩ := trodAll_cons r2
  obtain ⟨rfl, rfl, rfl⟩ := trodAll_nil r3
  obtain rfl : args = #[v0, v1, v2, v3] := by cases args; simp_all
  have lt0 : ∀ x ∈ p0, x.block < W.heap.size := by obtain ⟨m, hm⟩ := h0; exact DataW.trod_lt m _ _ _ hm
  have lt1 : ∀ x ∈ p1, x.block < W.heap.size := by obtain ⟨m, hm⟩ := h1; exact DataW.trod_lt m _ _ _ hm
  have lt2 : ∀ x ∈ p2, x.block < W.heap.size := by obtain ⟨m, hm⟩ := h2; exact DataW.trod_lt m _ _ _ hm
  have lt3 : ∀ x ∈ p3, x.block < W.heap.size := by obtain ⟨m, hm⟩ := h3; exact DataW.trod_lt m _ _ _ hm
  clear hA0 hval0
  refine (Go.Sx.law_holdsC (F := Go.Proofs.Ytamljpeicecbjaa.Leaf.FL) (ts := [36, 2, 2, 2]) named mixed Go.Proofs.Ytamljpeicecbjaa.LeafLa.F2_900 rowsOf trees hval hA1).mono fun e W' ⟨he, bel⟩ => ?_
  subst he
  exact ⟨_, rfl, _, _, _, [], _, [], hW', trodAll_mk1 (shut_bool Try.underlying4 _), (trodAll_cons_mk (Below.trod laidOut (by kernel_rfl) (of_decide_eq_true (by kernel_rfl)) h0 bel lt0) (trodAll_cons_mk (Below.trod laidOut (by kernel_rfl) (of_decide_eq_true (by kernel_rfl)) h1 bel lt1) (trodAll_cons_mk (Below.trod laidOut (by kernel_rfl) (of_decide_eq_true (by kernel_rfl)) h2 bel lt2) (trodAll_cons_mk (Below.trod laidOut (by kernel_rfl) (of_decide_eq_true (by kernel_rfl)) h3 bel lt3) trodAll_mk0)))), rfl, bel.frame _, fun h => by cases h⟩

theorem closed : joinedFacts Try.prog 28 Try.f28 Rows.fnExactLadderOfSpec Rows.fnExactLadderOfRow = true := by
  unfold joinedFacts
  rw [Go.Proofs.Ytamljpeicecbjaa.Door.may, Go.Proofs.Ytamljpeicecbjaa.Door.lifts, Go.Proofs.Ytamljpeicecbjaa.Door.mk]
  kernel_rfl
theorem over : Rows.fnExactLadderOfRow.holds Try.pinned (OpenSpec.ofChange Rows.fnExactLadderOfSpec) :=
  OpenClaim.holds_of_wide 28 Try.f28 rfl rfl rfl rfl rfl rfl rfl ⟨rfl, rfl, rfl, rfl, rfl⟩ rfl rfl rfl rfl rfl (by kernel_rfl) Try.func28 closed
    (of_decide_eq_true (by kernel_rfl)) (by unfold Func.isWrapper; first | (rw [if_pos (by decide +kernel)]; kernel_rfl) | (rw [if_neg (by decide +kernel)]; exact ⟨rfl, rfl⟩))
    (fun os started H enc _ => lifted os started H enc)

theorem proved : Rows.FnExactLadderOfSaid := over
#print axioms proved
end Go.Proofs.Ytamljpeicecbjaa.fnExactLadderOf
