/- The contracts of mixtures; names for what they compute. No condition. -/
import Derived.Test.YtfdpcmijifdfeaaGreatMk1
import Derived.Test.YtfdpcmijifdfeaaGreatMk4
import Derived.Test.YtfdpcmijifdfeaaGreatMk5
import Derived.Test.YtfdpcmijifdfeaaGreatMk6
set_option linter.unusedVariables false
set_option linter.unusedSimpArgs false
set_option maxRecDepth 100000
noncomputable section
namespace Go.Proofs.YtfdpcmijifdfeaaGreat.Leaf
open Go.Sx
def F4 : Nat → Sc → Sc := buildF F1 Ds4
theorem asc4 : defsAsc Ds4 900 = true := by kernel_rfl
structure Fok4 (F : Nat → Sc → Sc) : Prop extends Fok3 F where
  defs4 : ∀ id D, (id, D) ∈ Ds4 → ∀ c, F id c = D.den ⟨fun i => c.at_ i, F⟩
theorem Fok4_F4 : Fok4 F4 where
  defs := fun _ _ h c => buildF_def asc4 (.tail _ (.tail _ (.tail _ (.tail _ (.tail _ (.tail _ (.tail _ (.tail _ h)))))))) c
  rows := fun c => by
    have h : F4 900 = F1 900 := buildF_base (by kernel_rfl)
    rw [h]; simp [F1]
  name := fun c => by
    have h : F4 0 = F1 0 := buildF_base (by kernel_rfl)
    rw [h]; simp [F1]
  size := fun c => by
    have h : F4 1 = F1 1 := buildF_base (by kernel_rfl)
    rw [h]; simp [F1]
  defs3 := fun _ _ h c => buildF_def asc4 (.tail _ (.tail _ (.tail _ (.tail _ (.tail _ (.tail _ h)))))) c
  defs4 := fun _ _ h c => buildF_def asc4 h c
def mxS (n : Nat) : Sum := sumR [.ptS n pgs t6, .agg f6] (asM n) rpL 34 (230 + n) (call cxB Tryz.prog 1000 99)
def mxI (n : Nat) : Sum := sumR [.aggS n pgs t6, .agg f6] (asM n) rpL 34 (230 + n) (call cxB Tryz.prog 1000 106)
theorem mxS_ok {E : Env} (hE : Fok4 E.fn) (n : Nat) (h1 : 1 ≤ n) (h6 : n ≤ 6) : SumOk Tryz.prog E 99 (mxS n) := by
  have hels : SumOk Tryz.prog E 99 (call cxB Tryz.prog 1000 99) := call_ok (cxB_okF hE.toFok).1 (cxB_okF hE.toFok).2 nm mixed 1000 99
  match n, h1, h6 with
  | 1, _, _ => exact sumR2_ok (ctx := cm2) (n := 1000) (D := DM 1) (T := DA 1) (pcx := []) (cm2_ok' hE.toFok) nm mixed (hE.defs4 231 (DM 1) (show (231, DM 1) ∈ Ds4 from .tail _ (.tail _ (.tail _ (.tail _ (.tail _ (.head _))))))) (and_l mj_1) (and_r mj_1) (fun _ _ _ _ h => by cases h) (fun E' h hp => DA_DM (by decide) (by decide) (pcM_ok (by rw [h]; exact hE.toFok) (by decide) (by decide) mu_1 hp)) m157_1 hels
  | 2, _, _ => exact sumR2_ok (ctx := cm2) (n := 1000) (D := DM 2) (T := DA 2) (pcx := []) (cm2_ok' hE.toFok) nm mixed (hE.defs4 232 (DM 2) (show (232, DM 2) ∈ Ds4 from .tail _ (.tail _ (.tail _ (.tail _ (.head _)))))) (and_l mj_2) (and_r mj_2) (fun _ _ _ _ h => by cases h) (fun E' h hp => DA_DM (by decide) (by decide) (pcM_ok (by rw [h]; exact hE.toFok) (by decide) (by decide) mu_2 hp)) m157_2 hels
  | 3, _, _ => exact sumR2_ok (ctx := cm2) (n := 1000) (D := DM 3) (T := DA 3) (pcx := []) (cm2_ok' hE.toFok) nm mixed (hE.defs4 233 (DM 3) (show (233, DM 3) ∈ Ds4 from .tail _ (.tail _ (.tail _ (.head _))))) (and_l mj_3) (and_r mj_3) (fun _ _ _ _ h => by cases h) (fun E' h hp => DA_DM (by decide) (by decide) (pcM_ok (by rw [h]; exact hE.toFok) (by decide) (by decide) mu_3 hp)) m157_3 hels
  | 4, _, _ => exact sumR2_ok (ctx := cm2) (n := 1000) (D := DM 4) (T := DA 4) (pcx := []) (cm2_ok' hE.toFok) nm mixed (hE.defs4 234 (DM 4) (show (234, DM 4) ∈ Ds4 from .tail _ (.tail _ (.head _)))) (and_l mj_4) (and_r mj_4) (fun _ _ _ _ h => by cases h) (fun E' h hp => DA_DM (by decide) (by decide) (pcM_ok (by rw [h]; exact hE.toFok) (by decide) (by decide) mu_4 hp)) m157_4 hels
  | 5, _, _ => exact sumR2_ok (ctx := cm2) (n := 1000) (D := DM 5) (T := DA 5) (pcx := []) (cm2_ok' hE.toFok) nm mixed (hE.defs4 235 (DM 5) (show (235, DM 5) ∈ Ds4 from .tail _ (.head _))) (and_l mj_5) (and_r mj_5) (fun _ _ _ _ h => by cases h) (fun E' h hp => DA_DM (by decide) (by decide) (pcM_ok (by rw [h]; exact hE.toFok) (by decide) (by decide) mu_5 hp)) m157_5 hels
  | 6, _, _ => exact sumR2_ok (ctx := cm2) (n := 1000) (D := DM 6) (T := DA 6) (pcx := []) (cm2_ok' hE.toFok) nm mixed (hE.defs4 236 (DM 6) (show (236, DM 6) ∈ Ds4 from .head _)) (and_l mj_6) (and_r mj_6) (fun _ _ _ _ h => by cases h) (fun E' h hp => DA_DM (by decide) (by decide) (pcM_ok (by rw [h]; exact hE.toFok) (by decide) (by decide) mu_6 hp)) m157_6 hels
theorem mxS_pc {E : Env} (hE : Fok4 E.fn) (n : Nat) : ∀ args m pc, PcOk E pc → Pcs E Res.pc (mxS n args m pc) := fun args m pc hp =>
  sumQ_pc (fun args m pc hp => call_pc (cxB_okF hE.toFok).2 1000 99 args m pc hp) args m pc hp
theorem mxI_ok {E : Env} (hE : Fok4 E.fn) (n : Nat) (h1 : 1 ≤ n) (h6 : n ≤ 6) : SumOk Tryz.prog E 106 (mxI n) := by
  have hels : SumOk Tryz.prog E 106 (call cxB Tryz.prog 1000 106) := call_ok (cxB_okF hE.toFok).1 (cxB_okF hE.toFok).2 nm mixed 1000 106
  match n, h1, h6 with
  | 1, _, _ => exact sumR_ok (ctx := cmx) (n := 1000) (D := DM 1) (pcx := asM 1) (cmx_ok' hE.toFok) nm mixed (hE.defs4 231 (DM 1) (show (231, DM 1) ∈ Ds4 from .tail _ (.tail _ (.tail _ (.tail _ (.tail _ (.head _))))))) (and_l mi_1) (and_r mi_1) (fun _ _ hp => hp) m69_1 hels
  | 2, _, _ => exact sumR_ok (ctx := cmx) (n := 1000) (D := DM 2) (pcx := asM 2) (cmx_ok' hE.toFok) nm mixed (hE.defs4 232 (DM 2) (show (232, DM 2) ∈ Ds4 from .tail _ (.tail _ (.tail _ (.tail _ (.head _)))))) (and_l mi_2) (and_r mi_2) (fun _ _ hp => hp) m69_2 hels
  | 3, _, _ => exact sumR_ok (ctx := cmx) (n := 1000) (D := DM 3) (pcx := asM 3) (cmx_ok' hE.toFok) nm mixed (hE.defs4 233 (DM 3) (show (233, DM 3) ∈ Ds4 from .tail _ (.tail _ (.tail _ (.head _))))) (and_l mi_3) (and_r mi_3) (fun _ _ hp => hp) m69_3 hels
  | 4, _, _ => exact sumR_ok (ctx := cmx) (n := 1000) (D := DM 4) (pcx := asM 4) (cmx_ok' hE.toFok) nm mixed (hE.defs4 234 (DM 4) (show (234, DM 4) ∈ Ds4 from .tail _ (.tail _ (.head _)))) (and_l mi_4) (and_r mi_4) (fun _ _ hp => hp) m69_4 hels
  | 5, _, _ => exact sumR_ok (ctx := cmx) (n := 1000) (D := DM 5) (pcx := asM 5) (cmx_ok' hE.toFok) nm mixed (hE.defs4 235 (DM 5) (show (235, DM 5) ∈ Ds4 from .tail _ (.head _))) (and_l mi_5) (and_r mi_5) (fun _ _ hp => hp) m69_5 hels
  | 6, _, _ => exact sumR_ok (ctx := cmx) (n := 1000) (D := DM 6) (pcx := asM 6) (cmx_ok' hE.toFok) nm mixed (hE.defs4 236 (DM 6) (show (236, DM 6) ∈ Ds4 from .head _)) (and_l mi_6) (and_r mi_6) (fun _ _ hp => hp) m69_6 hels
theorem mxI_pc {E : Env} (hE : Fok4 E.fn) (n : Nat) : ∀ args m pc, PcOk E pc → Pcs E Res.pc (mxI n args m pc) := fun args m pc hp =>
  sumQ_pc (fun args m pc hp => call_pc (cxB_okF hE.toFok).2 1000 106 args m pc hp) args m pc hp
def disp (fits : List SV → Mem → Option Nat) (S : Nat → Sum) (els : Sum) : Sum := fun args m pc => match fits args m.mem with
  | some n => S n args m pc
  | none => els args m pc
theorem disp_ok {E : Env} {f : Nat} {fits : List SV → Mem → Option Nat} {S : Nat → Sum} {els : Sum} (h : ∀ args mem n, fits args mem = some n → SumOk Tryz.prog E f (S n)) (k : SumOk Tryz.prog E f els) : SumOk Tryz.prog E f (disp fits S els) := by
  intro args m pc r hr
  unfold disp at hr
  split at hr
  · rename_i n hn; exact h _ _ n hn args m pc r hr
  · exact k args m pc r hr
theorem disp_pc {E : Env} {fits : List SV → Mem → Option Nat} {S : Nat → Sum} {els : Sum} (h : ∀ n args m pc, PcOk E pc → Pcs E Res.pc (S n args m pc)) (k : ∀ args m pc, PcOk E pc → Pcs E Res.pc (els args m pc)) (args : List SV) (m : Mm) (pc : PC) (hp : PcOk E pc) : Pcs E Res.pc (disp fits S els args m pc) := by
  unfold disp
  split
  · exact h _ args m pc hp
  · exact k args m pc hp
def shArg2 : List SV → Mem → Option Nat
  | [s, .agg _], mem => shArg [s] mem
  | _, _ => none
def shPtr2 : List SV → Mem → Option Nat
  | [s, .agg _], mem => shPtr [s] mem
  | _, _ => none
theorem shArg2_ok {args : List SV} {mem : Mem} {k : Nat} (h : shArg2 args mem = some k) : 1 ≤ k ∧ k ≤ 6 := by
  unfold shArg2 at h
  split at h
  · exact shArg_ok h
  · cases h
theorem shPtr2_ok {args : List SV} {mem : Mem} {k : Nat} (h : shPtr2 args mem = some k) : 1 ≤ k ∧ k ≤ 6 := by
  unfold shPtr2 at h
  split at h
  · exact shPtr_ok h
  · cases h
def cxC : Ctx := ctxL ((106, disp shArg2 mxI (call cxB Tryz.prog 1000 106)) :: (99, disp shPtr2 mxS (call cxB Tryz.prog 1000 99)) :: (100, thick 100) :: (78, thick 78) :: (74, offS 74) :: (57, offS 57) :: orL (ctxL l3) Tryz.prog 1000 l5)
theorem cxC_okF {E : Env} (hE : Fok4 E.fn) : CtxOk Tryz.prog E cxC ∧ CtxPc E cxC := by
  have hB := cxB_okF hE.toFok
  exact ctxL_cons (ctxL_cons (cxT_okF hE.toFok3)
    (disp_ok (fun _ _ n hn => mxS_ok hE n (shPtr2_ok hn).1 (shPtr2_ok hn).2) (call_ok hB.1 hB.2 nm mixed 1000 99)) (disp_pc (fun n => mxS_pc hE n) (call_pc hB.2 1000 99)))
    (disp_ok (fun _ _ n hn => mxI_ok hE n (shArg2_ok hn).1 (shArg2_ok hn).2) (call_ok hB.1 hB.2 nm mixed 1000 106)) (disp_pc (fun n => mxI_pc hE n) (call_pc hB.2 1000 106))
theorem cxC_ok : ∀ E : Env, E.fn = F4 → CtxOk Tryz.prog E cxC ∧ CtxPc E cxC := fun E hE => cxC_okF (by rw [hE]; exact Fok4_F4)
end Go.Proofs.YtfdpcmijifdfeaaGreat.Leaf
namespace Go.Proofs.YtfdpcmijifdfeaaGreat.LeafC
open Go.Sx
def cxB : Ctx := Leaf.cxC
theorem cxB_ok : ∀ E : Env, E.fn = Leaf.F4 → CtxOk Tryz.prog E cxB ∧ CtxPc E cxB := Leaf.cxC_ok
theorem F2_900 : ∀ c, Leaf.F4 900 c = F900 c := Leaf.Fok4_F4.rows
end Go.Proofs.YtfdpcmijifdfeaaGreat.LeafC
