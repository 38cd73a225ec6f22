/- The contracts of thick layers and of how far two curves are apart; names for what they compute. No condition. -/
import Derived.Test.YtfdpcmijifdfeaaGreatCs
noncomputable section
namespace Go.Proofs.YtfdpcmijifdfeaaGreat.Leaf
open Go.Sx
set_option linter.unusedVariables false
set_option linter.unusedSimpArgs false
set_option maxRecDepth 100000
def rpC : Rp := (true, [(true, times [.float .f32] 16), (false, [.int .i64])])
def rpF : Rp := (false, [(false, [.float .f32])])
/-- What a thick layer reflects. -/
noncomputable def DT : Tm := (treeT rpC (callQ Tryz.prog (ctxL l3) 1000 100 [.agg f16, .agg f16] [])).getD .nil
/-- How far two curves are apart. -/
noncomputable def DO : Tm := (treeT rpF (callQ Tryz.prog (ctxL l3) 1000 74 [.agg f16, .agg f16] [])).getD .nil
noncomputable def Ds3 : List (Nat × Tm) := (21, DO) :: (20, DT) :: Ds
noncomputable def F3 : Nat → Sc → Sc := buildF F1 Ds3
theorem asc3 : defsAsc Ds3 900 = true := by kernel_rfl
structure Fok3 (F : Nat → Sc → Sc) : Prop extends Fok F where
  defs3 : ∀ id D, (id, D) ∈ Ds3 → ∀ c, F id c = D.den ⟨fun i => c.at_ i, F⟩
theorem Fok3_F3 : Fok3 F3 where
  defs := fun _ _ h c => buildF_def asc3 (List.Mem.tail _ (List.Mem.tail _ h)) c
  rows := fun c => by
    have h : F3 900 = F1 900 := buildF_base (by kernel_rfl)
    rw [h]; simp [F1]
  name := fun c => by
    have h : F3 0 = F1 0 := buildF_base (by kernel_rfl)
    rw [h]; simp [F1]
  size := fun c => by
    have h : F3 1 = F1 1 := buildF_base (by kernel_rfl)
    rw [h]; simp [F1]
  defs3 := fun _ _ h c => buildF_def asc3 h c
theorem and_l {a b : Bool} (h : (a && b) = true) : a = true := by cases a <;> cases b <;> simp_all
theorem and_r {a b : Bool} (h : (a && b) = true) : b = true := by cases a <;> cases b <;> simp_all
theorem tj : ((Nat.ble (bldP [.agg f16, .agg f16] 0 0).j 1000 && undersF (bldP [.agg f16, .agg f16] 0 0).n []) && (DT.under (bldP [.agg f16, .agg f16] 0 0).n && Nat.beq 17 (sizeR rpC.2))) = true := by kernel_rfl
theorem oj : ((Nat.ble (bldP [.agg f16, .agg f16] 0 0).j 1000 && undersF (bldP [.agg f16, .agg f16] 0 0).n []) && (DO.under (bldP [.agg f16, .agg f16] 0 0).n && Nat.beq 1 (sizeR rpF.2))) = true := by kernel_rfl
theorem t172 : treeIs rpC (callQ Tryz.prog (ctxL l3) 1000 100 [.agg f16, .agg f16] []) DT = true := by kernel_rfl
theorem t174 : treeIs rpC (callQ Tryz.prog (ctxL l3) 1000 78 [.agg f16, .agg f16] []) DT = true := by kernel_rfl
theorem o173 : treeIs rpF (callQ Tryz.prog (ctxL l3) 1000 74 [.agg f16, .agg f16] []) DO = true := by kernel_rfl
theorem o175 : treeIs rpF (callQ Tryz.prog (ctxL l3) 1000 57 [.agg f16, .agg f16] []) DO = true := by kernel_rfl
noncomputable def thick (f : Nat) : Sum := sumR [.agg f16, .agg f16] [] rpC 17 20 (call cxB Tryz.prog 1000 f)
noncomputable def offS (f : Nat) : Sum := sumR [.agg f16, .agg f16] [] rpF 1 21 (call cxB Tryz.prog 1000 f)
theorem thick_ok {E : Env} (hE : Fok3 E.fn) {f : Nat} (h : treeIs rpC (callQ Tryz.prog (ctxL l3) 1000 f [.agg f16, .agg f16] []) DT = true) : SumOk Tryz.prog E f (thick f) :=
  sumR_ok (ctx := ctxL l3) (n := 1000) (D := DT) (pcx := []) (c3' hE.toFok) nm mixed (hE.defs3 20 DT (show (20, DT) ∈ Ds3 from .tail _ (.head _))) (and_l tj) (and_r tj) (fun _ _ hp => hp) h (call_ok (cxB_okF hE.toFok).1 (cxB_okF hE.toFok).2 nm mixed 1000 f)
theorem offS_ok {E : Env} (hE : Fok3 E.fn) {f : Nat} (h : treeIs rpF (callQ Tryz.prog (ctxL l3) 1000 f [.agg f16, .agg f16] []) DO = true) : SumOk Tryz.prog E f (offS f) :=
  sumR_ok (ctx := ctxL l3) (n := 1000) (D := DO) (pcx := []) (c3' hE.toFok) nm mixed (hE.defs3 21 DO (show (21, DO) ∈ Ds3 from .head _)) (and_l oj) (and_r oj) (fun _ _ hp => hp) h (call_ok (cxB_okF hE.toFok).1 (cxB_okF hE.toFok).2 nm mixed 1000 f)
theorem els_pc {E : Env} (hE : Fok3 E.fn) {f : Nat} {ps : List Pa} {ass : PC} {mk : List Tm → SV} : ∀ args m pc, PcOk E pc → Pcs E Res.pc (sumQ ps ass mk (call cxB Tryz.prog 1000 f) args m pc) := fun args m pc hp =>
  sumQ_pc (fun args m pc hp => call_pc (cxB_okF hE.toFok).2 1000 f args m pc hp) args m pc hp
noncomputable def cxT : Ctx := ctxL ((100, thick 100) :: (78, thick 78) :: (74, offS 74) :: (57, offS 57) :: orL (ctxL l3) Tryz.prog 1000 l5)
theorem cxT_okF {E : Env} (hE : Fok3 E.fn) : CtxOk Tryz.prog E cxT ∧ CtxPc E cxT :=
  ctxL_cons (ctxL_cons (ctxL_cons (ctxL_cons (cxB_okF hE.toFok) (offS_ok hE o175) (els_pc hE)) (offS_ok hE o173) (els_pc hE)) (thick_ok hE t174) (els_pc hE)) (thick_ok hE t172) (els_pc hE)
theorem cxT_ok : ∀ E : Env, E.fn = F3 → CtxOk Tryz.prog E cxT ∧ CtxPc E cxT := fun E hE => cxT_okF (by rw [hE]; exact Fok3_F3)
end Go.Proofs.YtfdpcmijifdfeaaGreat.Leaf
namespace Go.Proofs.YtfdpcmijifdfeaaGreat.LeafT
open Go.Sx
noncomputable def cxB : Ctx := Leaf.cxT
theorem cxB_ok : ∀ E : Env, E.fn = Leaf.F3 → CtxOk Tryz.prog E cxB ∧ CtxPc E cxB := Leaf.cxT_ok
theorem F2_900 : ∀ c, Leaf.F3 900 c = F900 c := Leaf.Fok3_F3.rows
end Go.Proofs.YtfdpcmijifdfeaaGreat.LeafT
