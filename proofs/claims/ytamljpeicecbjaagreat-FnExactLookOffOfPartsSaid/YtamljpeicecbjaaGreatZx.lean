/- For the seat Z: the contracts of mixtures and of looks together. No condition. -/
import Derived.Test.YtamljpeicecbjaaGreatMc
import Derived.Test.YtamljpeicecbjaaGreatLk
set_option linter.unusedVariables false
set_option linter.unusedSimpArgs false
set_option maxRecDepth 100000
noncomputable section
namespace Go.Proofs.YtamljpeicecbjaaGreat.Leaf
open Go.Sx
def DsZ : List (Nat × Tm) := (236, DM 6) :: (235, DM 5) :: (234, DM 4) :: (233, DM 3) :: (232, DM 2) :: (231, DM 1) :: (35, UnT) :: (34, LkT) :: (33, CBs) :: (21, DO) :: (20, DT) :: Ds
def FZ : Nat → Sc → Sc := buildF F1c DsZ
theorem ascZ : defsAsc DsZ 900 = true := by kernel_rfl
theorem dsZ3 {x : Nat × Tm} (h : x ∈ Ds3) : x ∈ DsZ := .tail _ (.tail _ (.tail _ (.tail _ (.tail _ (.tail _ (.tail _ (.tail _ (.tail _ h))))))))
theorem dsZ4 {x : Nat × Tm} (h : x ∈ Ds4) : x ∈ DsZ := by
  rcases List.mem_cons.1 h with rfl | h
  · exact .head _
  rcases List.mem_cons.1 h with rfl | h
  · exact .tail _ (.head _)
  rcases List.mem_cons.1 h with rfl | h
  · exact .tail _ (.tail _ (.head _))
  rcases List.mem_cons.1 h with rfl | h
  · exact .tail _ (.tail _ (.tail _ (.head _)))
  rcases List.mem_cons.1 h with rfl | h
  · exact .tail _ (.tail _ (.tail _ (.tail _ (.head _))))
  rcases List.mem_cons.1 h with rfl | h
  · exact .tail _ (.tail _ (.tail _ (.tail _ (.tail _ (.head _)))))
  · exact dsZ3 h
theorem Fok4_FZ : Fok4 FZ where
  defs := fun _ _ h c => buildF_def ascZ (dsZ3 (.tail _ (.tail _ h))) c
  rows := fun c => by
    have h : FZ 900 = F1c 900 := buildF_base (by kernel_rfl)
    rw [h]; simp [F1c, F1]
  name := fun c => by
    have h : FZ 0 = F1c 0 := buildF_base (by kernel_rfl)
    rw [h]; simp [F1c, F1]
  size := fun c => by
    have h : FZ 1 = F1c 1 := buildF_base (by kernel_rfl)
    rw [h]; simp [F1c, F1]
  defs3 := fun _ _ h c => buildF_def ascZ (dsZ3 h) c
  defs4 := fun _ _ h c => buildF_def ascZ (dsZ4 h) c
theorem Fok5_FZ : Fok5 FZ where
  toFok := Fok4_FZ.toFok
  up := fun c => by
    have h : FZ 30 = F1c 30 := buildF_base (by kernel_rfl)
    rw [h]; simp [F1c]
  dn := fun c => by
    have h : FZ 31 = F1c 31 := buildF_base (by kernel_rfl)
    rw [h]; simp [F1c]
  nw := fun c => by
    have h : FZ 32 = F1c 32 := buildF_base (by kernel_rfl)
    rw [h]; simp [F1c]
  cb := fun c => buildF_def ascZ (show (33, CBs) ∈ DsZ from .tail _ (.tail _ (.tail _ (.tail _ (.tail _ (.tail _ (.tail _ (.tail _ (.head _))))))))) c
  lk := fun c => buildF_def ascZ (show (34, LkT) ∈ DsZ from .tail _ (.tail _ (.tail _ (.tail _ (.tail _ (.tail _ (.tail _ (.head _)))))))) c
  un := fun c => buildF_def ascZ (show (35, UnT) ∈ DsZ from .tail _ (.tail _ (.tail _ (.tail _ (.tail _ (.tail _ (.head _))))))) c
/-! A look's numbers are finite -/
theorem rt_sgZ {E : Env} (hE : Fok5 E.fn) {s : Tm} (hf : F.fin .f32 (s.den E).toF = true) : Sg R0 ((rtT s).den E).toF := by
  have e : (rtT s).den E = (CBs.den ⟨fun i => (Sc.cons (s.den E) .nil).at_ i, E.fn⟩).at_ 0 := by
    show (E.fn 33 (.cons (s.den E) .nil)).at_ 0 = _
    rw [hE.cb]
  rw [e]
  exact cb_sg (E := ⟨fun i => (Sc.cons (s.den E) .nil).at_ i, E.fn⟩) hE.up hE.dn hE.nw hf
theorem lkT_fin {E : Env} (hE : Fok5 E.fn) (i : Nat) (hi : i < 3) : F.fin .f32 ((LkT.den E).at_ i).toF = true := by
  have z0 : F.fin .f32 0 = true := by kernel_rfl
  have M0f : M0 < infS := blt_lt (by kernel_rfl)
  have M1f : M1 < infS := blt_lt (by kernel_rfl)
  have M2f : M2 < infS := blt_lt (by kernel_rfl)
  have er : F.fin .f32 ((errT.den E).at_ i).toF = true := by
    match i, hi with
    | 0, _ => exact z0
    | 1, _ => exact z0
    | 2, _ => exact z0
  have nf : ∀ s : Tm, ((nfT s).den E).toB = !(F.fin .f32 (s.den E).toF) := fun s => rfl
  have key : ∀ s0 s1 s2 : Tm, F.fin .f32 (((LkG s0 s1 s2).den E).at_ i).toF = true := by
    intro s0 s1 s2
    simp only [LkG, Tm.den]
    cases h0 : F.fin .f32 (s0.den E).toF with
    | false => simp only [nf, h0, Bool.not_false, if_true]; exact er
    | true =>
      cases h1 : F.fin .f32 (s1.den E).toF with
      | false => simp only [nf, h0, h1, Bool.not_false, Bool.not_true, Bool.false_eq_true, if_false, if_true]; exact er
      | true =>
        cases h2 : F.fin .f32 (s2.den E).toF with
        | false => simp only [nf, h0, h1, h2, Bool.not_false, Bool.not_true, Bool.false_eq_true, if_false, if_true]; exact er
        | true =>
          simp only [nf, h0, h1, h2, Bool.not_true, Bool.false_eq_true, if_false]
          obtain ⟨g0, g1, g2⟩ := look_sg (rt_sgZ hE h0) (rt_sgZ hE h1) (rt_sgZ hE h2)
          match i, hi with
          | 0, _ => exact g0.fin M0f
          | 1, _ => exact g1.fin M1f
          | 2, _ => exact g2.fin M2f
  exact key _ _ _
def fn3 (c : Tm) (i : Nat) : Tm × Bool := (.op (.ffin .f32) (.nth i (.app 34 c)) .nil, true)
theorem fn3_ok {E : Env} (hE : Fok5 E.fn) (c : Tm) (i : Nat) (hi : i < 3) : ((fn3 c i).1.den E).toB = true := by
  show F.fin .f32 ((E.fn 34 (c.den E)).at_ i).toF = true
  rw [hE.lk]
  exact lkT_fin (E := ⟨fun i => (c.den E).at_ i, E.fn⟩) hE i hi
def finL3 (r : Res) : Res :=
  match r.v with
  | .tup (.agg (.sc (.float .f32) (.nth 0 (.app 34 c)) :: _) :: _) => { r with pc := fn3 c 0 :: fn3 c 1 :: fn3 c 2 :: r.pc }
  | _ => r
def finL (S : Sum) : Sum := fun args m pc => (S args m pc).bind fun r => .ret (finL3 r)
theorem finL3_pc {E : Env} (hE : Fok5 E.fn) {r : Res} (h : PcOk E r.pc) : PcOk E (finL3 r).pc := by
  unfold finL3
  split
  · exact ((h.cons (fn3_ok hE _ 2 (by decide))).cons (fn3_ok hE _ 1 (by decide))).cons (fn3_ok hE _ 0 (by decide))
  · exact h
theorem finL_ok {E : Env} (hE : Fok5 E.fn) {f : Nat} {S : Sum} (h : SumOk Tryz.prog E f S) : SumOk Tryz.prog E f (finL S) := by
  intro args m pc r hr β w vals hreps hm hf hl hp
  unfold finL at hr
  obtain ⟨r0, h0, hr⟩ := Out.sel_bind_some hr
  simp only [Out.sel, Option.some.injEq] at hr
  subst hr
  obtain ⟨h1, h2, h3, h4⟩ := h args m pc r0 h0 β w vals hreps hm hf hl hp
  have h1' := finL3_pc hE h1
  unfold finL3 at h1' ⊢
  split
  · rename_i hv
    simp only [hv] at h1'
    exact ⟨h1', h2, h3, h4⟩
  · exact ⟨h1, h2, h3, h4⟩
theorem finL_pc {E : Env} (hE : Fok5 E.fn) {S : Sum} (h : ∀ args m pc, PcOk E pc → Pcs E Res.pc (S args m pc)) (args : List SV) (m : Mm) (pc : PC) (hp : PcOk E pc) : Pcs E Res.pc (finL S args m pc) := by
  unfold finL
  exact .bind (h args m pc hp) (fun r hr => .ret (finL3_pc hE hr))
def cxZ : Ctx := ctxL ((70, finL lkS) :: (39, finL lkI) :: (139, cbS) :: (117, cbI) :: (103, disp shArg2 mxI (call cxB Tryz.prog 1000 103)) :: (99, disp shPtr2 mxS (call cxB Tryz.prog 1000 99)) :: (100, thick 100) :: (73, thick 73) :: (88, offS 88) :: (79, offS 79) :: orL (ctxL l3) Tryz.prog 1000 l5)
theorem cxZ_okF {E : Env} (h4 : Fok4 E.fn) (h5 : Fok5 E.fn) : CtxOk Tryz.prog E cxZ ∧ CtxPc E cxZ :=
  ctxL_cons (ctxL_cons (ctxL_cons (ctxL_cons (cxC_okF h4) (cbI_ok h5) (cb_pc h5)) (cbS_ok h5) (cb_pc h5)) (finL_ok h5 (lkI_ok h5)) (finL_pc h5 (cb_pc h5))) (finL_ok h5 (lkS_ok h5)) (finL_pc h5 (cb_pc h5))
end Go.Proofs.YtamljpeicecbjaaGreat.Leaf
namespace Go.Proofs.YtamljpeicecbjaaGreat.LeafZ
open Go.Sx
def cxB : Ctx := Leaf.cxZ
theorem cxB_ok : ∀ E : Env, E.fn = Leaf.FZ → CtxOk Tryz.prog E cxB ∧ CtxPc E cxB := fun E hE => Leaf.cxZ_okF (by rw [hE]; exact Leaf.Fok4_FZ) (by rw [hE]; exact Leaf.Fok5_FZ)
theorem F2_900 : ∀ c, Leaf.FZ 900 c = F900 c := Leaf.Fok4_FZ.rows
end Go.Proofs.YtamljpeicecbjaaGreat.LeafZ
