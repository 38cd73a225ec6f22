/- The difference of two curves under a light, its being finite told; long lists of lights. No condition. -/
import Derived.Test.YtamljpeicecbjaaLk
import Derived.Test.YtamljpeicecbjaaCv
set_option linter.unusedVariables false
set_option linter.unusedSimpArgs false
set_option maxRecDepth 100000
noncomputable section
namespace Go.Proofs.Ytamljpeicecbjaa.Leaf
open Go.Sx
def finR (r : Res) : Res :=
  match r.v with
  | .tup (.sc (.float .f32) (.nth 0 (.app 35 c)) :: _) => { r with pc := (.op (.ffin .f32) (.nth 0 (.app 35 c)) .nil, true) :: r.pc }
  | _ => r
/-- The same contract; that the difference is finite is told. -/
def finC (S : Sum) : Sum := fun args m pc => (S args m pc).bind fun r => .ret (finR r)
theorem UnT_fin {E : Env} (hE : Fok5 E.fn) : F.fin .f32 ((UnT.den E).at_ 0).toF = true := by
  have h0 : F.fin .f32 0 = true := by kernel_rfl
  simp only [UnT, UnG, Tm.den]
  cases h1 : ((badC 16).den E).toB with
  | true => exact h0
  | false =>
    cases h2 : ((badC 32).den E).toB with
    | true => exact h0
    | false =>
      obtain ⟨u0, u1, u2⟩ := lkA_sg hE (bad_no h1)
      obtain ⟨v0, v1, v2⟩ := lkA_sg hE (bad_no h2)
      exact looks_fin u0 u1 u2 v0 v1 v2
theorem un_fin {E : Env} (hE : Fok5 E.fn) (c : Tm) : ((Tm.op (.ffin .f32) (.nth 0 (.app 35 c)) .nil).den E).toB = true := by
  show F.fin .f32 ((E.fn 35 (c.den E)).at_ 0).toF = true
  rw [hE.un]
  exact UnT_fin (E := ⟨fun i => (c.den E).at_ i, E.fn⟩) hE
theorem finR_pc {E : Env} (hE : Fok5 E.fn) {r : Res} (h : PcOk E r.pc) : PcOk E (finR r).pc := by
  unfold finR
  split
  · exact h.cons (un_fin hE _)
  · exact h
theorem finC_ok {E : Env} (hE : Fok5 E.fn) {f : Nat} {S : Sum} (h : SumOk Try.prog E f S) : SumOk Try.prog E f (finC S) := by
  intro args m pc r hr β w vals hreps hm hf hl hp
  unfold finC at hr
  obtain ⟨r0, h0, hr⟩ := Out.sel_bind_some hr
  simp only [Out.sel, Option.some.injEq] at hr
  subst hr
  obtain ⟨h1, h2, h3, h4⟩ := h args m pc r0 h0 β w vals hreps hm hf hl hp
  have h1' := finR_pc hE h1
  unfold finR at h1' ⊢
  split
  · rename_i hv
    simp only [hv] at h1'
    exact ⟨h1', h2, h3, h4⟩
  · exact ⟨h1, h2, h3, h4⟩
theorem finC_pc {E : Env} (hE : Fok5 E.fn) {S : Sum} (h : ∀ args m pc, PcOk E pc → Pcs E Res.pc (S args m pc)) (args : List SV) (m : Mm) (pc : PC) (hp : PcOk E pc) : Pcs E Res.pc (finC S args m pc) := by
  unfold finC
  exact .bind (h args m pc hp) (fun r hr => .ret (finR_pc hE hr))
def cxW : Ctx := ctxL ((93, orS LeafV.toC (call (ctxL l2) Try.prog 1000 93)) :: (95, orS LeafV.eqC (call (ctxL l2) Try.prog 1000 95)) :: (165, finC unS) :: (166, finC unI) :: (203, lkS) :: (206, lkI) :: (240, cbS) :: (245, cbI) :: l2)
theorem cxW_okF {E : Env} (hE : Fok5 E.fn) : CtxOk Try.prog E cxW ∧ CtxPc E cxW :=
  ctxL_cons (ctxL_cons (ctxL_cons (ctxL_cons (cU_okF hE) (finC_ok hE (unI_ok hE)) (finC_pc hE (cb_pc hE))) (finC_ok hE (unS_ok hE)) (finC_pc hE (cb_pc hE))) (orS_ok (LeafV.eqC_ok hE.rows) (call_ok (c2 hE.toFok).1 (c2 hE.toFok).2 nm mixed 1000 95)) (orS_pc LeafV.eqC_pc (call_pc (c2 hE.toFok).2 1000 95))) (orS_ok (LeafV.toC_ok hE.rows) (call_ok (c2 hE.toFok).1 (c2 hE.toFok).2 nm mixed 1000 93)) (orS_pc LeafV.toC_pc (call_pc (c2 hE.toFok).2 1000 93))
theorem cxW_ok : ∀ E : Env, E.fn = F5 → CtxOk Try.prog E cxW ∧ CtxPc E cxW := fun E hE => cxW_okF (by rw [hE]; exact Fok5_F5)
end Go.Proofs.Ytamljpeicecbjaa.Leaf
namespace Go.Proofs.Ytamljpeicecbjaa.LeafW
open Go.Sx
def cxB : Ctx := Leaf.cxW
theorem cxB_ok : ∀ E : Env, E.fn = Leaf.F5 → CtxOk Try.prog E cxB ∧ CtxPc E cxB := Leaf.cxW_ok
theorem F2_900 : ∀ c, Leaf.F5 900 c = F900 c := Leaf.Fok5_F5.rows
end Go.Proofs.Ytamljpeicecbjaa.LeafW
