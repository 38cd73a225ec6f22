/- The context of laws that mark lists of curves and of numbers. No condition. -/
import Derived.Test.YtamljpeicecbjaaMk
import Derived.Test.YtamljpeicecbjaaUl
set_option linter.unusedVariables false
set_option linter.unusedSimpArgs false
set_option maxRecDepth 100000
noncomputable section
namespace Go.Proofs.Ytamljpeicecbjaa.Leaf
open Go.Sx
def hdS (cx : Ctx) (K : MkKind) (f : Nat) : Sum := orS (heldX K) (call cx Try.prog 1000 f)
theorem hdS_ok {E : Env} {cx : Ctx} {K : MkKind} {f : Nat} (hC : CtxOk Try.prog E cx ∧ CtxPc E cx) (hK : MkOk K) (hf : ∃ fn, Try.prog.funcs[f]? = some fn ∧ fn.body.isSome = true) (walk : HeldWalk f K) : SumOk Try.prog E f (hdS cx K f) :=
  orS_ok (heldX_ok hK hf walk) (call_ok hC.1 hC.2 nm mixed 1000 f)
theorem hdS_pc {E : Env} {cx : Ctx} {K : MkKind} {f : Nat} (hC : CtxOk Try.prog E cx ∧ CtxPc E cx) : ∀ args m pc, PcOk E pc → Pcs E Res.pc (hdS cx K f args m pc) :=
  orS_pc heldX_pc (call_pc hC.2 1000 f)
theorem withMk_ok {E : Env} {ctx : Ctx} {f : Nat} {K : MkKind} {ks : List SK} (h : CtxOk Try.prog E ctx ∧ CtxPc E ctx) (hK : MkOk K) (hlen : ks.length = K.m) (hF : ∀ c, E.fn 900 c = F900 c) (hf : ∃ fn, Try.prog.funcs[f]? = some fn ∧ fn.body.isSome = true) (walk : MkWalk f K) :
    CtxOk Try.prog E (withFxs ctx f (markX K ks)) ∧ CtxPc E (withFxs ctx f (markX K ks)) :=
  withFxs_ok h (fun args σ o ho r hr hp => (markX_ok hK hlen hF hf walk args σ o ho r hr hp).2) (fun args σ o ho hp r hr => (markX_ok hK hlen hF hf walk args σ o ho r hr hp).1)
def cxWg : Ctx := ctxL ((76, sumI f16) :: (104, sumE f16) :: (101, hdS cxW kF 101) :: (109, hdS cxW kC 109) :: (93, orS LeafV.toC (call (ctxL l2) Try.prog 1000 93)) :: (95, orS LeafV.eqC (call (ctxL l2) Try.prog 1000 95)) :: (165, finC unS) :: (166, finC unI) :: (203, lkS) :: (206, lkI) :: (240, cbS) :: (245, cbI) :: l2)
def cxWf : Ctx := withFxs (withFxs (withFx cxWg (fun g => Nat.beq g 99 || Nat.beq g 100)) 99 (markX kC f16)) 100 (markX kF [k32])
theorem cxWg_okF {E : Env} (hE : Fok5 E.fn) : CtxOk Try.prog E cxWg ∧ CtxPc E cxWg := by
  have hW := cxW_okF hE
  exact ctxL_cons (ctxL_cons (ctxL_cons (ctxL_cons hW (hdS_ok hW kC_ok ⟨_, Try.func109, by kernel_rfl⟩ heldC_walk) (hdS_pc hW)) (hdS_ok hW kF_ok ⟨_, Try.func101, by kernel_rfl⟩ heldF_walk) (hdS_pc hW))
    (sumE_ok (ctx := ctxL l3) (n := 1000) (c3' hE.toFok) nm mixed (by kernel_rfl)) sumE_pc)
    (sumI_ok (ctx := ctxL l3) (n := 1000) (c3' hE.toFok) nm mixed (by kernel_rfl)) sumP_pc
theorem cxWf_okF {E : Env} (hE : Fok5 E.fn) : CtxOk Try.prog E cxWf ∧ CtxPc E cxWf := by
  have hg := cxWg_okF hE
  exact withMk_ok (withMk_ok (withFx_ok hg _) kC_ok rfl hE.rows ⟨_, Try.func99, by kernel_rfl⟩ markC_walk) kF_ok rfl hE.rows ⟨_, Try.func100, by kernel_rfl⟩ markF_walk
end Go.Proofs.Ytamljpeicecbjaa.Leaf
namespace Go.Proofs.Ytamljpeicecbjaa.LeafY
open Go.Sx
def cxB : Ctx := Leaf.cxWf
theorem cxB_ok : ∀ E : Env, E.fn = Leaf.F5 → CtxOk Try.prog E cxB ∧ CtxPc E cxB := fun E hE => Leaf.cxWf_okF (by rw [hE]; exact Leaf.Fok5_F5)
theorem F2_900 : ∀ c, Leaf.F5 900 c = F900 c := Leaf.Fok5_F5.rows
end Go.Proofs.Ytamljpeicecbjaa.LeafY
