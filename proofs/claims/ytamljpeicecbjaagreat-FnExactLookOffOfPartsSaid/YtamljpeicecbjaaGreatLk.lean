/- The contracts of a look under a light. No condition. -/
import Derived.Test.YtamljpeicecbjaaGreatCb
import Derived.Test.YtamljpeicecbjaaGreatSxCbrt
set_option linter.unusedVariables false
set_option linter.unusedSimpArgs false
set_option maxRecDepth 100000
noncomputable section
namespace Go.Proofs.YtamljpeicecbjaaGreat.Leaf
open Go.Sx
/-- Two functions whose trees agree: one name for both. -/
theorem sumG_ok {P : Go.Program} {E : Env} {ctx : Ctx} {n m f g N id : Nat} {ps : List Pa} {ass pcx : PC} {rp : Rp} {D : Tm} {els : Sum} (hC : ∀ E' : Env, E'.fn = E.fn → CtxOk P E' ctx ∧ CtxPc E' ctx)
    (hN : Named P) (hmix : P.follows .mixedOrders = true) (hD : ∀ c, E.fn id c = D.den ⟨fun i => c.at_ i, E.fn⟩)
    (hj : (Nat.ble (bldP ps 0 0).j 1000 && undersF (bldP ps 0 0).n ass) = true) (hu : (D.under (bldP ps 0 0).n && Nat.beq N (sizeR rp.2)) = true)
    (hx : ∀ E' : Env, E'.fn = E.fn → PcOk E' ass → PcOk E' pcx) (hk : treeIs rp (callQ P ctx n g ps pcx) D = true)
    (ha : agree m [] (callQ P ctx n g ps pcx) (callQ P ctx n f ps pcx) = true) (hels : SumOk P E f els) : SumOk P E f (sumR ps ass rp N id els) := by
  simp only [Bool.and_eq_true] at hu
  refine sumQ_ok (n := n) hC hN hmix hj hx (fun E' ts hfn hp hn hE => ?_) hels
  unfold treeIs at hk
  split at hk
  · rename_i T hT
    have e := Tm.beq_eq hk
    subst e
    obtain ⟨r, cs, h1, h2, h3⟩ := treeT_sel (E := E') hT
    obtain ⟨r', g1, g2⟩ := agree_ok (pc := []) (fun p hp => by cases hp) ha h1
    refine ⟨r', g1, fun β' β v hv => ?_⟩
    rw [g2] at hv
    have hlen := unR_length h2
    have hN' : N = sizeR rp.2 := Nat.eq_of_beq_eq_true hu.2
    refine unR_rep h2 hv ⟨by rw [nths_length]; omega, fun i t u g1 g2 => ?_⟩
    have eu := nths_get g2
    rw [Nat.zero_add] at eu
    subst eu
    simp only [Tm.den]
    rw [hD]
    have e2 : T.den E' = T.den ⟨fun i => ((listT ts).den E).at_ i, E.fn⟩ := under_den (E' := ⟨fun i => ((listT ts).den E).at_ i, E.fn⟩) (n := (bldP ps 0 0).n) (fun i hi => by
      rw [hn] at hi
      have ht : ts[i]? = some ts[i] := List.getElem?_eq_getElem hi
      rw [hE i _ ht]
      exact (listT_at ht).symm) hfn hu.1
    rw [← e2, h3]
    exact listT_at g1
  · cases hk
def rpK : Rp := (true, [(true, [.float .f32, .float .f32, .float .f32]), (false, [.int .i64])])
def cL : Ctx := ctxL ((139, cbS) :: (117, cbI) :: l2)
theorem cL_okF {E : Env} (hE : Fok5 E.fn) : CtxOk Tryz.prog E cL ∧ CtxPc E cL := ctxL_cons (ctxL_cons (c2 hE.toFok) (cbI_ok hE) (cb_pc hE)) (cbS_ok hE) (cb_pc hE)
theorem cL_ok {E : Env} (hE : Fok5 E.fn) : ∀ E' : Env, E'.fn = E.fn → CtxOk Tryz.prog E' cL ∧ CtxPc E' cL := fun E' h => cL_okF (by rw [h]; exact hE)
def pa2 : List Pa := [.agg f16, .agg f16]
theorem t203 : treeIs rpK (callQ Tryz.prog cL 1000 70 pa2 []) LkT = true := by kernel_rfl
theorem t206 : agree 1000 [] (callQ Tryz.prog cL 1000 70 pa2 []) (callQ Tryz.prog cL 1000 39 pa2 []) = true := by kernel_rfl
theorem kj : ((Nat.ble (bldP pa2 0 0).j 1000 && undersF (bldP pa2 0 0).n []) && (LkT.under (bldP pa2 0 0).n && Nat.beq 4 (sizeR rpK.2))) = true := by kernel_rfl
def lkS : Sum := sumR pa2 [] rpK 4 34 (call (ctxL l2) Tryz.prog 1000 70)
def lkI : Sum := sumR pa2 [] rpK 4 34 (call (ctxL l2) Tryz.prog 1000 39)
theorem lkS_ok {E : Env} (hE : Fok5 E.fn) : SumOk Tryz.prog E 70 lkS :=
  sumR_ok (ctx := cL) (n := 1000) (D := LkT) (pcx := []) (cL_ok hE) nm mixed hE.lk (andL kj) (andR kj) (fun _ _ h => h) t203 (call_ok (c2 hE.toFok).1 (c2 hE.toFok).2 nm mixed 1000 70)
theorem lkI_ok {E : Env} (hE : Fok5 E.fn) : SumOk Tryz.prog E 39 lkI :=
  sumG_ok (ctx := cL) (n := 1000) (m := 1000) (g := 70) (D := LkT) (pcx := []) (cL_ok hE) nm mixed hE.lk (andL kj) (andR kj) (fun _ _ h => h) t203 t206 (call_ok (c2 hE.toFok).1 (c2 hE.toFok).2 nm mixed 1000 39)
def cU : Ctx := ctxL ((70, lkS) :: (39, lkI) :: (139, cbS) :: (117, cbI) :: l2)
theorem cU_okF {E : Env} (hE : Fok5 E.fn) : CtxOk Tryz.prog E cU ∧ CtxPc E cU := ctxL_cons (ctxL_cons (cL_okF hE) (lkI_ok hE) (cb_pc hE)) (lkS_ok hE) (cb_pc hE)
theorem cU_ok {E : Env} (hE : Fok5 E.fn) : ∀ E' : Env, E'.fn = E.fn → CtxOk Tryz.prog E' cU ∧ CtxPc E' cU := fun E' h => cU_okF (by rw [h]; exact hE)
def pa3 : List Pa := [.agg f16, .agg f16, .agg f16]
theorem cU_ok5 : ∀ E : Env, E.fn = F5 → CtxOk Tryz.prog E cU ∧ CtxPc E cU := fun E hE => cU_okF (by rw [hE]; exact Fok5_F5)
end Go.Proofs.YtamljpeicecbjaaGreat.Leaf
