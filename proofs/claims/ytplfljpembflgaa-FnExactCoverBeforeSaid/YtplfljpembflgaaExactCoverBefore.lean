/- 'FnExactCoverBefore': the tree that the executor reckons of the law is true at each leaf; the row's frame. No condition. -/
import Derived.Test.YtplfljpembflgaaRows
import Derived.Test.YtplfljpembflgaaSxArgs
import Derived.WalkKit
import Derived.ProofKit
import Derived.OpenShut
import Derived.ShutString
import Derived.ChangeOld
namespace Go.Proofs.Ytplfljpembflgaa.fnExactCoverBefore
open Go.ChangeShapes Go.WideShapes Go.ChangeAt Go.RowKit
set_option linter.unusedVariables false
set_option maxRecDepth 100000

theorem own : ownKnob Try.prog.godebug = none := by kernel_rfl
theorem laidOut : laidOutB Try.prog = true := by kernel_rfl
theorem named : (Try.prog.funcs.toList.all fun fn => !(fn.name == "runtime.NumGoroutine")) = true := by kernel_rfl
theorem mixed : Try.prog.follows .mixedOrders = true := by kernel_rfl
def covD : Nat → Nat → Go.Sx.Tm → Go.Sx.Tm → List Go.Sx.Tm
  | 0, _, _, _ => []
  | k + 1, b, low, high =>
    let m := Go.Sx.mkOp (.fmul .f32) (.fl 1056964608) (Go.Sx.mkOp (.fadd .f32) low high)
    let s := Go.Sx.mkOp (.fadd .f32) m (Go.Sx.mkOp (.fmul .f32) (.fl 1082130432) (Go.Sx.mkOp (.fmul .f32) (Go.Sx.mkOp (.fmul .f32) (.var 0) m) (Go.Sx.mkOp (.fsub .f32) (.fl 1065353216) m)))
    let g := Go.Sx.mkIte (Go.Sx.mkOp (.flt .f32) (.fl 1065353216) s) (.fl 1065353216) s
    let c := Go.Sx.mkOp (.flt .f32) (.var b) (.var 1)
    g :: Go.Sx.mkIte c m low :: Go.Sx.mkIte c high m :: covD k (b + 3) (.var (b + 1)) (.var (b + 2))
theorem tree : Go.Sx.lawTrueD Try.prog 1000 7 [22, 22] 100 (covD 20 100 (.fl 0) (.fl 1065353216)) = true := by kernel_rfl

theorem lifted (os : Os) (started : os.Started) (H : Type) (enc : TypeId × Value → H) :
    ReturnsInHanded {} Try.checked os 7 .any (Rows.fnExactCoverBeforeSpec.pre6 enc Try.prog Try.f7 Rows.fnExactCoverBeforeRow.domain false) (Rows.fnExactCoverBeforeSpec.post enc Try.prog Try.f7 false true false false) := by
  refine returnsInHanded_of_change (C := Try.checked) own started (by kernel_rfl) Try.func7
    (ChangeSpec.witness6 (enc := enc) (C := Try.checked) false ⟨#[], #[.float .f32 0, .float .f32 0], []⟩ 8 (by kernel_rfl) (by kernel_rfl) (by kernel_rfl) (by kernel_rfl)) ?_
  intro W base args ds gs before hval0 hW hcnd _
  have hval : ∀ (j : Nat) t v, Try.f7.params[j]? = some t → args[j]? = some v → Value.okWide Try.prog W .any base t v := hval0
  have hW' := hW
  obtain ⟨p, q, hA0, hV, rfl, hfz, hnd⟩ := hW
  have hA : DataW.TrodAll enc Try.prog W 0 (fun _ => true) true Try.f7.params.toList args.toList ds p := hA0
  rw [Try.params7] at hA hval
  obtain ⟨rfl, rfl⟩ := trodVars_none hV
  have hlen : args.toList.length = 2 := Go.Sx.trodAll_length hA
  obtain ⟨v0, vs0, d0, ds0, p0, q0, hargs, rfl, rfl, h0, r0⟩ := trodAll_cons hA
  obtain ⟨v1, vs1, d1, ds1, p1, q1, rfl, rfl, rfl, h1, r1⟩ := trodAll_cons r0
  obtain ⟨rfl, rfl, rfl⟩ := trodAll_nil r1
  obtain rfl : args = #[v0, v1] := by cases args; simp_all
  have lt0 : ∀ x ∈ p0, x.block < W.heap.size := by obtain ⟨m, hm⟩ := h0; exact DataW.trod_lt m _ _ _ hm
  have lt1 : ∀ x ∈ p1, x.block < W.heap.size := by obtain ⟨m, hm⟩ := h1; exact DataW.trod_lt m _ _ _ hm
  clear hA0 hval0
  refine (Go.Sx.law_holdsD (ts := [22, 22]) named mixed tree hlen hval).mono fun e W' ⟨he, bel⟩ => ?_
  subst he
  exact ⟨_, rfl, _, _, _, [], _, [], hW', trodAll_mk1 (shut_bool Try.underlying4 _), (trodAll_cons_mk (Below.trod laidOut (by kernel_rfl) (of_decide_eq_true (by kernel_rfl)) h0 bel lt0) (trodAll_cons_mk (Below.trod laidOut (by kernel_rfl) (of_decide_eq_true (by kernel_rfl)) h1 bel lt1) trodAll_mk0)), rfl, bel.frame _, fun h => by cases h⟩

theorem over : Rows.fnExactCoverBeforeRow.holds Try.pinned (OpenSpec.ofChange Rows.fnExactCoverBeforeSpec) :=
  OpenClaim.holds_of_wide 7 Try.f7 rfl rfl rfl rfl rfl rfl rfl ⟨rfl, rfl, rfl, rfl, rfl⟩ rfl rfl rfl rfl rfl (by kernel_rfl) Try.func7 (by kernel_rfl)
    (of_decide_eq_true (by kernel_rfl)) (by unfold Func.isWrapper; first | (rw [if_pos (by decide +kernel)]; kernel_rfl) | (rw [if_neg (by decide +kernel)]; exact ⟨rfl, rfl⟩))
    (fun os started H enc _ => lifted os started H enc)

theorem proved : Rows.FnExactCoverBeforeSaid := over
#print axioms proved
end Go.Proofs.Ytplfljpembflgaa.fnExactCoverBefore
