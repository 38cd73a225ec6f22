/- All contracts, with that of the lesser of two whole numbers. No condition. -/
import Derived.Test.YtamljpeicecbjaaCs
import Derived.Test.YtamljpeicecbjaaMin
namespace Go.Proofs.Ytamljpeicecbjaa.LeafM
open Go.Sx Go.Proofs.Ytamljpeicecbjaa.Leaf
set_option linter.unusedVariables false
set_option linter.unusedSimpArgs false
set_option maxRecDepth 100000
noncomputable def cxB : Ctx := ctxL ((139, sumD [.sc i64, .sc i64] i64 Dmin) :: orL (ctxL l3) Try.prog 1000 l5)
theorem cxB_ok : ∀ E : Env, E.fn = F2 → CtxOk Try.prog E cxB ∧ CtxPc E cxB := fun E hE => ctxL_cons (Leaf.cxB_ok E hE) (min_ok hE) sumP_pc
theorem F2_900 : ∀ c, F2 900 c = F900 c := Go.Proofs.Ytamljpeicecbjaa.Leaf.F2_900
end Go.Proofs.Ytamljpeicecbjaa.LeafM
