/- The context of laws that mark shelves and drops. No condition. -/
import Derived.Test.YtamljpeicecbjaaMkF
import Derived.Test.YtamljpeicecbjaaTh
set_option linter.unusedVariables false
set_option linter.unusedSimpArgs false
set_option maxRecDepth 100000
noncomputable section
namespace Go.Proofs.Ytamljpeicecbjaa.Leaf
open Go.Sx
def hdS (cx : Ctx) (K : MkKind) (f : Nat) : Sum := orS (heldX K) (call cx Try.prog 1000 f)
theorem hdS_ok {E : Env} {cx : Ctx} {K : MkKind} {f : Nat} (hC : CtxOk Try.prog E cx ∧ CtxPc E cx) (hK : MkOk K) (hf : ∃ fn, Try.prog.funcs[f]? = some fn ∧ fn.body.isSome = true) (walk : HeldWalk f K) : SumOk Try.prog E f (hdS cx K f) :=
  orS_ok (heldX_ok hK hf walk) (call_ok hC.1 hC.2 nm mixed 1000 f)
theorem hdS_pc {E : Env} {cx : Ctx} {K : MkKind} {f : Nat} (hC : CtxOk Try.prog E cx ∧ CtxPc E cx) : ∀ args m pc, PcOk E pc → Pcs E Res.pc (hdS cx K f args m pc) :=
  orS_pc heldX_pc (call_pc hC.2 1000 f)
theorem withMk_ok {E : Env} {ctx : Ctx} {f : Nat} {K : MkKind} {ks : List SK} (h : CtxOk Try.prog E ctx ∧ CtxPc E ctx) (hK : MkOk K) (hlen : ks.length = K.m) (hF : ∀ c, E.fn 900 c = F900 c) (hf : ∃ fn, Try.prog.funcs[f]? = some fn ∧ fn.body.isSome = true) (walk : MkWalk f K) :
    CtxOk Try.prog E (withFxs ctx f (markX K ks)) ∧ CtxPc E (withFxs ctx f (markX K ks)) :=
  withFxs_ok h (fun args σ o ho r hr hp => (markX_ok hK hlen hF hf walk args σ o ho r hr hp).2) (fun args σ o ho hp r hr => (markX_ok hK hlen hF hf walk args σ o ho r hr hp).1)
def cxTg : Ctx := ctxL ((164, hdS cxT kP 164) :: (84, hdS cxT kD 84) :: (172, thick 172) :: (174, thick 174) :: (173, offS 173) :: (175, offS 175) :: orL (ctxL l3) Try.prog 1000 l5)
def cxTf : Ctx := withFxs (withFxs (withFx cxTg (fun g => Nat.beq g 73 || Nat.beq g 163 || Nat.beq g 83)) 163 (markX kP pgs)) 83 (markX kD d6)
theorem cxTf_okF {E : Env} (hE : Fok3 E.fn) : CtxOk Try.prog E cxTf ∧ CtxPc E cxTf := by
  have hT := cxT_okF hE
  have hg : CtxOk Try.prog E cxTg ∧ CtxPc E cxTg := ctxL_cons (ctxL_cons hT (hdS_ok hT kD_ok ⟨_, Try.func84, by kernel_rfl⟩ heldD_walk) (hdS_pc hT)) (hdS_ok hT kP_ok ⟨_, Try.func164, by kernel_rfl⟩ heldP_walk) (hdS_pc hT)
  exact withMk_ok (withMk_ok (withFx_ok hg _) kP_ok rfl hE.rows ⟨_, Try.func163, by kernel_rfl⟩ markP_walk) kD_ok rfl hE.rows ⟨_, Try.func83, by kernel_rfl⟩ markD_walk
end Go.Proofs.Ytamljpeicecbjaa.Leaf
namespace Go.Proofs.Ytamljpeicecbjaa.LeafF
open Go.Sx
def cxB : Ctx := Leaf.cxTf
theorem cxB_ok : ∀ E : Env, E.fn = Leaf.F3 → CtxOk Try.prog E cxB ∧ CtxPc E cxB := fun E hE => Leaf.cxTf_okF (by rw [hE]; exact Leaf.Fok3_F3)
theorem F2_900 : ∀ c, Leaf.F3 900 c = F900 c := Leaf.Fok3_F3.rows
end Go.Proofs.Ytamljpeicecbjaa.LeafF
