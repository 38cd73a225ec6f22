/- The lesser of two whole numbers: the reference's function in the builtin's form. No condition. -/
import Derived.Test.YtamljpeicecbjaaCt
noncomputable section
namespace Go.Proofs.Ytamljpeicecbjaa.Leaf
open Go.Sx
set_option linter.unusedVariables false
set_option linter.unusedSimpArgs false
set_option maxRecDepth 100000
def Tmin : Tm := .ite (.op .lti (.var 0) (.var 1)) (.var 0) (.var 1)
def Dmin : Tm := .ite (.op .lti (.var 1) (.var 0)) (.var 1) (.var 0)
theorem k139 : retV (callP Try.prog (ctxL l1) 100 139 [.sc i64, .sc i64]) (.sc i64 Tmin) = true := by kernel_rfl
theorem min_ok {E : Env} (hE : Fok E.fn) : SumOk Try.prog E 139 (sumD [.sc i64, .sc i64] i64 Dmin) := by
  refine sumP_ok (ctx := ctxL l1) (n := 100) (V := .sc i64 Tmin) (c1' hE) nm mixed (by decide) (retV_ok k139) fun E' ts hfn hp hn hEv β' β v hv => ?_
  simp only [SV.rep, i64, SK.rep] at hv ⊢
  have hu : Dmin.under ts.length = true := by rw [← hn]; rfl
  rw [subst_den hEv hfn hu, hv]
  simp only [Tmin, Dmin, Tm.den, Opc.den, Sc.toB_b]
  congr 1
  by_cases h1 : (E'.v 0).toI < (E'.v 1).toI
  · have h2 : ¬ (E'.v 1).toI < (E'.v 0).toI := by omega
    simp [h1, h2]
  · by_cases h2 : (E'.v 1).toI < (E'.v 0).toI
    · simp [h1, h2]
    · have h3 : (E'.v 0).toI = (E'.v 1).toI := by omega
      simp [h3]
end Go.Proofs.Ytamljpeicecbjaa.Leaf
