/- The contracts of a look under a light. No condition. -/
import Derived.Test.YtamljpeicecbjaaCb
import Derived.Test.YtamljpeicecbjaaSxLook
set_option linter.unusedVariables false
set_option linter.unusedSimpArgs false
set_option maxRecDepth 100000
noncomputable section
namespace Go.Proofs.Ytamljpeicecbjaa.Leaf
open Go.Sx
/-- Two functions whose trees agree: one name for both. -/
theorem sumG_ok {P : Go.Program} {E : Env} {ctx : Ctx} {n m f g N id : Nat} {ps : List Pa} {ass pcx : PC} {rp : Rp} {D : Tm} {els : Sum} (hC : ∀ E' : Env, E'.fn = E.fn → CtxOk P E' ctx ∧ CtxPc E' ctx)
    (hN : Named P) (hmix : P.follows .mixedOrders = true) (hD : ∀ c, E.fn id c = D.den ⟨fun i => c.at_ i, E.fn⟩)
    (hj : (Nat.ble (bldP ps 0 0).j 1000 && undersF (bldP ps 0 0).n ass) = true) (hu : (D.under (bldP ps 0 0).n && Nat.beq N (sizeR rp.2)) = true)
    (hx : ∀ E' : Env, E'.fn = E.fn → PcOk E' ass → PcOk E' pcx) (hk : treeIs rp (callQ P ctx n g ps pcx) D = true)
    (ha : agree m [] (callQ P ctx n g ps pcx) (callQ P ctx n f ps pcx) = true) (hels : SumOk P E f els) : SumOk P E f (sumR ps ass rp N id els) := by
  simp only [Bool.and_eq_true] at hu
  refine sumQ_ok (n := n) hC hN hmix hj hx (fun E' ts hfn hp hn hE => ?_) hels
  unfold treeIs at hk
  split at hk
  · rename_i T hT
    have e := Tm.beq_eq hk
    subst e
    obtain ⟨r, cs, h1, h2, h3⟩ := treeT_sel (E := E') hT
    obtain ⟨r', g1, g2⟩ := agree_ok (pc := []) (fun p hp => by cases hp) ha h1
    refine ⟨r', g1, fun β' β v hv => ?_⟩
    rw [g2] at hv
    have hlen := unR_length h2
    have hN' : N = sizeR rp.2 := Nat.eq_of_beq_eq_true hu.2
    refine unR_rep h2 hv ⟨by rw [nths_length]; omega, fun i t u g1 g2 => ?_⟩
    have eu := nths_get g2
    rw [Nat.zero_add] at eu
    subst eu
    simp only [Tm.den]
    rw [hD]
    have e2 : T.den E' = T.den ⟨fun i => ((listT ts).den E).at_ i, E.fn⟩ := under_den (E' := ⟨fun i => ((listT ts).den E).at_ i, E.fn⟩) (n := (bldP ps 0 0).n) (fun i hi => by
      rw [hn] at hi
      have ht : ts[i]? = some ts[i] := List.getElem?_eq_getElem hi
      rw [hE i _ ht]
      exact (listT_at ht).symm) hfn hu.1
    rw [← e2, h3]
    exact listT_at g1
  · cases hk
def rpK : Rp := (true, [(true, [.float .f32, .float .f32, .float .f32]), (false, [.int .i64])])
def cL : Ctx := ctxL ((240, cbS) :: (245, cbI) :: l2)
theorem cL_okF {E : Env} (hE : Fok5 E.fn) : CtxOk Try.prog E cL ∧ CtxPc E cL := ctxL_cons (ctxL_cons (c2 hE.toFok) (cbI_ok hE) (cb_pc hE)) (cbS_ok hE) (cb_pc hE)
theorem cL_ok {E : Env} (hE : Fok5 E.fn) : ∀ E' : Env, E'.fn = E.fn → CtxOk Try.prog E' cL ∧ CtxPc E' cL := fun E' h => cL_okF (by rw [h]; exact hE)
def pa2 : List Pa := [.agg f16, .agg f16]
theorem t203 : treeIs rpK (callQ Try.prog cL 1000 203 pa2 []) LkT = true := by kernel_rfl
theorem t206 : agree 1000 [] (callQ Try.prog cL 1000 203 pa2 []) (callQ Try.prog cL 1000 206 pa2 []) = true := by kernel_rfl
theorem kj : ((Nat.ble (bldP pa2 0 0).j 1000 && undersF (bldP pa2 0 0).n []) && (LkT.under (bldP pa2 0 0).n && Nat.beq 4 (sizeR rpK.2))) = true := by kernel_rfl
def lkS : Sum := sumR pa2 [] rpK 4 34 (call (ctxL l2) Try.prog 1000 203)
def lkI : Sum := sumR pa2 [] rpK 4 34 (call (ctxL l2) Try.prog 1000 206)
theorem lkS_ok {E : Env} (hE : Fok5 E.fn) : SumOk Try.prog E 203 lkS :=
  sumR_ok (ctx := cL) (n := 1000) (D := LkT) (pcx := []) (cL_ok hE) nm mixed hE.lk (andL kj) (andR kj) (fun _ _ h => h) t203 (call_ok (c2 hE.toFok).1 (c2 hE.toFok).2 nm mixed 1000 203)
theorem lkI_ok {E : Env} (hE : Fok5 E.fn) : SumOk Try.prog E 206 lkI :=
  sumG_ok (ctx := cL) (n := 1000) (m := 1000) (g := 203) (D := LkT) (pcx := []) (cL_ok hE) nm mixed hE.lk (andL kj) (andR kj) (fun _ _ h => h) t203 t206 (call_ok (c2 hE.toFok).1 (c2 hE.toFok).2 nm mixed 1000 206)
def cU : Ctx := ctxL ((203, lkS) :: (206, lkI) :: (240, cbS) :: (245, cbI) :: l2)
theorem cU_okF {E : Env} (hE : Fok5 E.fn) : CtxOk Try.prog E cU ∧ CtxPc E cU := ctxL_cons (ctxL_cons (cL_okF hE) (lkI_ok hE) (cb_pc hE)) (lkS_ok hE) (cb_pc hE)
theorem cU_ok {E : Env} (hE : Fok5 E.fn) : ∀ E' : Env, E'.fn = E.fn → CtxOk Try.prog E' cU ∧ CtxPc E' cU := fun E' h => cU_okF (by rw [h]; exact hE)
def pa3 : List Pa := [.agg f16, .agg f16, .agg f16]
theorem t165 : treeIs rpQ (callQ Try.prog cU 1000 165 pa3 []) UnS = true := by kernel_rfl
theorem t166 : treeIs rpQ (callQ Try.prog cU 1000 166 pa3 []) UnT = true := by kernel_rfl
theorem uj : ((Nat.ble (bldP pa3 0 0).j 1000 && undersF (bldP pa3 0 0).n []) && (UnT.under (bldP pa3 0 0).n && Nat.beq 2 (sizeR rpQ.2))) = true := by kernel_rfl
section
variable {E : Env}
theorem rt_sg (hE : Fok5 E.fn) {s : Tm} (hf : F.fin .f32 (s.den E).toF = true) : Sg R0 ((rtT s).den E).toF := by
  have e : (rtT s).den E = (CBs.den ⟨fun i => (Sc.cons (s.den E) .nil).at_ i, E.fn⟩).at_ 0 := by
    show (E.fn 33 (.cons (s.den E) .nil)).at_ 0 = _
    rw [hE.cb]
  rw [e]
  exact cb_sg (E := ⟨fun i => (Sc.cons (s.den E) .nil).at_ i, E.fn⟩) hE.up hE.dn hE.nw hf
/-- A look with the code 'fine' is not great. -/
theorem lk_sg (hE : Fok5 E.fn) {s0 s1 s2 : Tm} (h : (((LkG s0 s1 s2).den E).at_ 3).toI = 0) :
    Sg M0 (((LkG s0 s1 s2).den E).at_ 0).toF ∧ Sg M1 (((LkG s0 s1 s2).den E).at_ 1).toF ∧ Sg M2 (((LkG s0 s1 s2).den E).at_ 2).toF := by
  have er : ((errT.den E).at_ 3).toI = 4 := rfl
  have nf : ∀ s : Tm, ((nfT s).den E).toB = !(F.fin .f32 (s.den E).toF) := fun s => rfl
  simp only [LkG, Tm.den] at h ⊢
  cases h0 : F.fin .f32 (s0.den E).toF with
  | false => simp only [nf, h0, Bool.not_false, if_true] at h; rw [er] at h; exact absurd h (by decide)
  | true =>
    cases h1 : F.fin .f32 (s1.den E).toF with
    | false => simp only [nf, h0, h1, Bool.not_false, Bool.not_true, Bool.false_eq_true, if_false, if_true] at h; rw [er] at h; exact absurd h (by decide)
    | true =>
      cases h2 : F.fin .f32 (s2.den E).toF with
      | false => simp only [nf, h0, h1, h2, Bool.not_false, Bool.not_true, Bool.false_eq_true, if_false, if_true] at h; rw [er] at h; exact absurd h (by decide)
      | true =>
        simp only [nf, h0, h1, h2, Bool.not_true, Bool.false_eq_true, if_false]
        exact look_sg (rt_sg hE h0) (rt_sg hE h1) (rt_sg hE h2)
theorem lkA_sg (hE : Fok5 E.fn) {n : Nat} (h : ((cdT n).den E).toI = 0) : Sg M0 ((Tm.nth 0 (lkA n)).den E).toF ∧ Sg M1 ((Tm.nth 1 (lkA n)).den E).toF ∧ Sg M2 ((Tm.nth 2 (lkA n)).den E).toF := by
  have e : (lkA n).den E = LkT.den ⟨fun i => ((listT (vars 16 0 ++ vars 16 n)).den E).at_ i, E.fn⟩ := by
    show E.fn 34 _ = _
    rw [hE.lk]
  simp only [cdT, Tm.den] at h ⊢
  rw [e] at h ⊢
  exact lk_sg (E := ⟨fun i => ((listT (vars 16 0 ++ vars 16 n)).den E).at_ i, E.fn⟩) hE h
theorem bad_no {n : Nat} (h : ((badC n).den E).toB = false) : ((cdT n).den E).toI = 0 := by
  have h' : (!(decide (((cdT n).den E).toI = 0))) = false := h
  simpa using h'
theorem UnS_den (hE : Fok5 E.fn) : UnS.den E = UnT.den E := by
  simp only [UnS, UnT, UnG, Tm.den]
  cases h1 : ((badC 16).den E).toB with
  | true => rfl
  | false =>
    cases h2 : ((badC 32).den E).toB with
    | true => rfl
    | false =>
      obtain ⟨u0, u1, u2⟩ := lkA_sg hE (bad_no h1)
      obtain ⟨v0, v1, v2⟩ := lkA_sg hE (bad_no h2)
      have hf : F.fin .f32 (dfT.den E).toF = true := looks_fin u0 u1 u2 v0 v1 v2
      simp only [Bool.false_eq_true, if_false]
      have hn : (Opc.den .notb (Opc.den (.ffin .f32) (dfT.den E) .nil) .nil).toB = false := by
        show (!(F.fin .f32 (dfT.den E).toF)) = false
        rw [hf]; rfl
      exact if_neg (fun h => Bool.noConfusion (hn.symm.trans h))
end
def unS : Sum := sumR pa3 [] rpQ 2 35 (call (ctxL l2) Try.prog 1000 165)
def unI : Sum := sumR pa3 [] rpQ 2 35 (call (ctxL l2) Try.prog 1000 166)
theorem unS_ok {E : Env} (hE : Fok5 E.fn) : SumOk Try.prog E 165 unS :=
  sumR2_ok (ctx := cU) (n := 1000) (D := UnT) (T := UnS) (pcx := []) (cU_ok hE) nm mixed hE.un (andL uj) (andR uj) (fun _ _ h => h) (fun E' h _ => UnS_den (by rw [h]; exact hE)) t165 (call_ok (c2 hE.toFok).1 (c2 hE.toFok).2 nm mixed 1000 165)
theorem unI_ok {E : Env} (hE : Fok5 E.fn) : SumOk Try.prog E 166 unI :=
  sumR_ok (ctx := cU) (n := 1000) (D := UnT) (pcx := []) (cU_ok hE) nm mixed hE.un (andL uj) (andR uj) (fun _ _ h => h) t166 (call_ok (c2 hE.toFok).1 (c2 hE.toFok).2 nm mixed 1000 166)
def cxU : Ctx := ctxL ((165, unS) :: (166, unI) :: (203, lkS) :: (206, lkI) :: (240, cbS) :: (245, cbI) :: l2)
theorem cxU_okF {E : Env} (hE : Fok5 E.fn) : CtxOk Try.prog E cxU ∧ CtxPc E cxU := ctxL_cons (ctxL_cons (cU_okF hE) (unI_ok hE) (cb_pc hE)) (unS_ok hE) (cb_pc hE)
theorem cxU_ok : ∀ E : Env, E.fn = F5 → CtxOk Try.prog E cxU ∧ CtxPc E cxU := fun E hE => cxU_okF (by rw [hE]; exact Fok5_F5)
end Go.Proofs.Ytamljpeicecbjaa.Leaf
namespace Go.Proofs.Ytamljpeicecbjaa.LeafU
open Go.Sx
def cxB : Ctx := Leaf.cxU
theorem cxB_ok : ∀ E : Env, E.fn = Leaf.F5 → CtxOk Try.prog E cxB ∧ CtxPc E cxB := Leaf.cxU_ok
theorem F2_900 : ∀ c, Leaf.F5 900 c = F900 c := Leaf.Fok5_F5.rows
end Go.Proofs.Ytamljpeicecbjaa.LeafU
