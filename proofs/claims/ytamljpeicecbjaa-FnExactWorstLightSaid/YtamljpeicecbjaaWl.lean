/- The contracts of the worst light, for one to eight lights. No condition. -/
import Derived.Test.YtamljpeicecbjaaUl
set_option linter.unusedVariables false
set_option linter.unusedSimpArgs false
set_option maxRecDepth 100000
noncomputable section
namespace Go.Proofs.Ytamljpeicecbjaa.Leaf
open Go.Sx
def rpW2 : Rp := (true, [(false, [.int .i64]), (false, [.int .i64])])
def paW (n : Nat) : List Pa := [.sl n f16, .agg f16, .agg f16]
def wS (n : Nat) : Out Res := callQ Try.prog cxW 1000 92 (paW n) []
def wI (n : Nat) : Out Res := callQ Try.prog cxW 1000 94 (paW n) []
def WT (n : Nat) : Tm := (treeT rpW2 (wS n)).getD .nil
def Ds7 : List (Nat × Tm) := (48, WT 8) :: (47, WT 7) :: (46, WT 6) :: (45, WT 5) :: (44, WT 4) :: (43, WT 3) :: (42, WT 2) :: (41, WT 1) :: Ds6
def F7 : Nat → Sc → Sc := buildF F1c Ds7
theorem asc7 : defsAsc Ds7 900 = true := by kernel_rfl
structure Fok7 (F : Nat → Sc → Sc) : Prop extends Fok5 F where
  ws : ∀ id D, (id, D) ∈ Ds7 → ∀ c, F id c = D.den ⟨fun i => c.at_ i, F⟩
theorem Fok7_F7 : Fok7 F7 where
  defs := fun _ _ h c => buildF_def asc7 (.tail _ (.tail _ (.tail _ (.tail _ (.tail _ (.tail _ (.tail _ (.tail _ (.tail _ (.tail _ (.tail _ h))))))))))) c
  rows := fun c => by
    have h : F7 900 = F1c 900 := buildF_base (by kernel_rfl)
    rw [h]; simp [F1c, F1]
  name := fun c => by
    have h : F7 0 = F1c 0 := buildF_base (by kernel_rfl)
    rw [h]; simp [F1c, F1]
  size := fun c => by
    have h : F7 1 = F1c 1 := buildF_base (by kernel_rfl)
    rw [h]; simp [F1c, F1]
  up := fun c => by
    have h : F7 30 = F1c 30 := buildF_base (by kernel_rfl)
    rw [h]; simp [F1c]
  dn := fun c => by
    have h : F7 31 = F1c 31 := buildF_base (by kernel_rfl)
    rw [h]; simp [F1c]
  nw := fun c => by
    have h : F7 32 = F1c 32 := buildF_base (by kernel_rfl)
    rw [h]; simp [F1c]
  cb := fun c => buildF_def asc7 (show (33, CBs) ∈ Ds7 from .tail _ (.tail _ (.tail _ (.tail _ (.tail _ (.tail _ (.tail _ (.tail _ (.tail _ (.tail _ (.head _))))))))))) c
  lk := fun c => buildF_def asc7 (show (34, LkT) ∈ Ds7 from .tail _ (.tail _ (.tail _ (.tail _ (.tail _ (.tail _ (.tail _ (.tail _ (.tail _ (.head _)))))))))) c
  un := fun c => buildF_def asc7 (show (35, UnT) ∈ Ds7 from .tail _ (.tail _ (.tail _ (.tail _ (.tail _ (.tail _ (.tail _ (.tail _ (.head _))))))))) c
  ws := fun _ _ h c => buildF_def asc7 h c
theorem cxW_ok' {E : Env} (hE : Fok5 E.fn) : ∀ E' : Env, E'.fn = E.fn → CtxOk Try.prog E' cxW ∧ CtxPc E' cxW := fun E' h => cxW_okF (by rw [h]; exact hE)
def wkS (n : Nat) : Sum := sumR (paW n) [] rpW2 2 (40 + n) (call cxW Try.prog 1000 92)
def wkI (n : Nat) : Sum := sumR (paW n) [] rpW2 2 (40 + n) (call cxW Try.prog 1000 94)
theorem ws_1 : treeIs rpW2 (callQ Try.prog cxW 1000 92 (paW 1) []) (WT 1) = true := by kernel_rfl
theorem wi_1 : agree 100000 [] (callQ Try.prog cxW 1000 92 (paW 1) []) (callQ Try.prog cxW 1000 94 (paW 1) []) = true := by kernel_rfl
theorem wj_1 : ((Nat.ble (bldP (paW 1) 0 0).j 1000 && undersF (bldP (paW 1) 0 0).n []) && ((WT 1).under (bldP (paW 1) 0 0).n && Nat.beq 2 (sizeR rpW2.2))) = true := by kernel_rfl
theorem ws_2 : treeIs rpW2 (callQ Try.prog cxW 1000 92 (paW 2) []) (WT 2) = true := by kernel_rfl
theorem wi_2 : agree 100000 [] (callQ Try.prog cxW 1000 92 (paW 2) []) (callQ Try.prog cxW 1000 94 (paW 2) []) = true := by kernel_rfl
theorem wj_2 : ((Nat.ble (bldP (paW 2) 0 0).j 1000 && undersF (bldP (paW 2) 0 0).n []) && ((WT 2).under (bldP (paW 2) 0 0).n && Nat.beq 2 (sizeR rpW2.2))) = true := by kernel_rfl
theorem ws_3 : treeIs rpW2 (callQ Try.prog cxW 1000 92 (paW 3) []) (WT 3) = true := by kernel_rfl
theorem wi_3 : agree 100000 [] (callQ Try.prog cxW 1000 92 (paW 3) []) (callQ Try.prog cxW 1000 94 (paW 3) []) = true := by kernel_rfl
theorem wj_3 : ((Nat.ble (bldP (paW 3) 0 0).j 1000 && undersF (bldP (paW 3) 0 0).n []) && ((WT 3).under (bldP (paW 3) 0 0).n && Nat.beq 2 (sizeR rpW2.2))) = true := by kernel_rfl
theorem ws_4 : treeIs rpW2 (callQ Try.prog cxW 1000 92 (paW 4) []) (WT 4) = true := by kernel_rfl
theorem wi_4 : agree 100000 [] (callQ Try.prog cxW 1000 92 (paW 4) []) (callQ Try.prog cxW 1000 94 (paW 4) []) = true := by kernel_rfl
theorem wj_4 : ((Nat.ble (bldP (paW 4) 0 0).j 1000 && undersF (bldP (paW 4) 0 0).n []) && ((WT 4).under (bldP (paW 4) 0 0).n && Nat.beq 2 (sizeR rpW2.2))) = true := by kernel_rfl
theorem ws_5 : treeIs rpW2 (callQ Try.prog cxW 1000 92 (paW 5) []) (WT 5) = true := by kernel_rfl
theorem wi_5 : agree 100000 [] (callQ Try.prog cxW 1000 92 (paW 5) []) (callQ Try.prog cxW 1000 94 (paW 5) []) = true := by kernel_rfl
theorem wj_5 : ((Nat.ble (bldP (paW 5) 0 0).j 1000 && undersF (bldP (paW 5) 0 0).n []) && ((WT 5).under (bldP (paW 5) 0 0).n && Nat.beq 2 (sizeR rpW2.2))) = true := by kernel_rfl
theorem ws_6 : treeIs rpW2 (callQ Try.prog cxW 1000 92 (paW 6) []) (WT 6) = true := by kernel_rfl
theorem wi_6 : agree 100000 [] (callQ Try.prog cxW 1000 92 (paW 6) []) (callQ Try.prog cxW 1000 94 (paW 6) []) = true := by kernel_rfl
theorem wj_6 : ((Nat.ble (bldP (paW 6) 0 0).j 1000 && undersF (bldP (paW 6) 0 0).n []) && ((WT 6).under (bldP (paW 6) 0 0).n && Nat.beq 2 (sizeR rpW2.2))) = true := by kernel_rfl
theorem ws_7 : treeIs rpW2 (callQ Try.prog cxW 1000 92 (paW 7) []) (WT 7) = true := by kernel_rfl
theorem wi_7 : agree 100000 [] (callQ Try.prog cxW 1000 92 (paW 7) []) (callQ Try.prog cxW 1000 94 (paW 7) []) = true := by kernel_rfl
theorem wj_7 : ((Nat.ble (bldP (paW 7) 0 0).j 1000 && undersF (bldP (paW 7) 0 0).n []) && ((WT 7).under (bldP (paW 7) 0 0).n && Nat.beq 2 (sizeR rpW2.2))) = true := by kernel_rfl
theorem ws_8 : treeIs rpW2 (callQ Try.prog cxW 1000 92 (paW 8) []) (WT 8) = true := by kernel_rfl
theorem wi_8 : agree 100000 [] (callQ Try.prog cxW 1000 92 (paW 8) []) (callQ Try.prog cxW 1000 94 (paW 8) []) = true := by kernel_rfl
theorem wj_8 : ((Nat.ble (bldP (paW 8) 0 0).j 1000 && undersF (bldP (paW 8) 0 0).n []) && ((WT 8).under (bldP (paW 8) 0 0).n && Nat.beq 2 (sizeR rpW2.2))) = true := by kernel_rfl
theorem wkS_ok {E : Env} (hE : Fok7 E.fn) (n : Nat) (h1 : 1 ≤ n) (h8 : n ≤ 8) : SumOk Try.prog E 92 (wkS n) := by
  have hels : SumOk Try.prog E 92 (call cxW Try.prog 1000 92) := call_ok (cxW_okF hE.toFok5).1 (cxW_okF hE.toFok5).2 nm mixed 1000 92
  match n, h1, h8 with
  | 1, _, _ => exact sumR_ok (ctx := cxW) (n := 1000) (D := WT 1) (pcx := []) (cxW_ok' hE.toFok5) nm mixed (hE.ws 41 (WT 1) (.tail _ (.tail _ (.tail _ (.tail _ (.tail _ (.tail _ (.tail _ (.head _))))))))) (andL wj_1) (andR wj_1) (fun _ _ h => h) ws_1 hels
  | 2, _, _ => exact sumR_ok (ctx := cxW) (n := 1000) (D := WT 2) (pcx := []) (cxW_ok' hE.toFok5) nm mixed (hE.ws 42 (WT 2) (.tail _ (.tail _ (.tail _ (.tail _ (.tail _ (.tail _ (.head _)))))))) (andL wj_2) (andR wj_2) (fun _ _ h => h) ws_2 hels
  | 3, _, _ => exact sumR_ok (ctx := cxW) (n := 1000) (D := WT 3) (pcx := []) (cxW_ok' hE.toFok5) nm mixed (hE.ws 43 (WT 3) (.tail _ (.tail _ (.tail _ (.tail _ (.tail _ (.head _))))))) (andL wj_3) (andR wj_3) (fun _ _ h => h) ws_3 hels
  | 4, _, _ => exact sumR_ok (ctx := cxW) (n := 1000) (D := WT 4) (pcx := []) (cxW_ok' hE.toFok5) nm mixed (hE.ws 44 (WT 4) (.tail _ (.tail _ (.tail _ (.tail _ (.head _)))))) (andL wj_4) (andR wj_4) (fun _ _ h => h) ws_4 hels
  | 5, _, _ => exact sumR_ok (ctx := cxW) (n := 1000) (D := WT 5) (pcx := []) (cxW_ok' hE.toFok5) nm mixed (hE.ws 45 (WT 5) (.tail _ (.tail _ (.tail _ (.head _))))) (andL wj_5) (andR wj_5) (fun _ _ h => h) ws_5 hels
  | 6, _, _ => exact sumR_ok (ctx := cxW) (n := 1000) (D := WT 6) (pcx := []) (cxW_ok' hE.toFok5) nm mixed (hE.ws 46 (WT 6) (.tail _ (.tail _ (.head _)))) (andL wj_6) (andR wj_6) (fun _ _ h => h) ws_6 hels
  | 7, _, _ => exact sumR_ok (ctx := cxW) (n := 1000) (D := WT 7) (pcx := []) (cxW_ok' hE.toFok5) nm mixed (hE.ws 47 (WT 7) (.tail _ (.head _))) (andL wj_7) (andR wj_7) (fun _ _ h => h) ws_7 hels
  | 8, _, _ => exact sumR_ok (ctx := cxW) (n := 1000) (D := WT 8) (pcx := []) (cxW_ok' hE.toFok5) nm mixed (hE.ws 48 (WT 8) (.head _)) (andL wj_8) (andR wj_8) (fun _ _ h => h) ws_8 hels
theorem wkI_ok {E : Env} (hE : Fok7 E.fn) (n : Nat) (h1 : 1 ≤ n) (h8 : n ≤ 8) : SumOk Try.prog E 94 (wkI n) := by
  have hels : SumOk Try.prog E 94 (call cxW Try.prog 1000 94) := call_ok (cxW_okF hE.toFok5).1 (cxW_okF hE.toFok5).2 nm mixed 1000 94
  match n, h1, h8 with
  | 1, _, _ => exact sumG_ok (ctx := cxW) (n := 1000) (m := 100000) (g := 92) (D := WT 1) (pcx := []) (cxW_ok' hE.toFok5) nm mixed (hE.ws 41 (WT 1) (.tail _ (.tail _ (.tail _ (.tail _ (.tail _ (.tail _ (.tail _ (.head _))))))))) (andL wj_1) (andR wj_1) (fun _ _ h => h) ws_1 wi_1 hels
  | 2, _, _ => exact sumG_ok (ctx := cxW) (n := 1000) (m := 100000) (g := 92) (D := WT 2) (pcx := []) (cxW_ok' hE.toFok5) nm mixed (hE.ws 42 (WT 2) (.tail _ (.tail _ (.tail _ (.tail _ (.tail _ (.tail _ (.head _)))))))) (andL wj_2) (andR wj_2) (fun _ _ h => h) ws_2 wi_2 hels
  | 3, _, _ => exact sumG_ok (ctx := cxW) (n := 1000) (m := 100000) (g := 92) (D := WT 3) (pcx := []) (cxW_ok' hE.toFok5) nm mixed (hE.ws 43 (WT 3) (.tail _ (.tail _ (.tail _ (.tail _ (.tail _ (.head _))))))) (andL wj_3) (andR wj_3) (fun _ _ h => h) ws_3 wi_3 hels
  | 4, _, _ => exact sumG_ok (ctx := cxW) (n := 1000) (m := 100000) (g := 92) (D := WT 4) (pcx := []) (cxW_ok' hE.toFok5) nm mixed (hE.ws 44 (WT 4) (.tail _ (.tail _ (.tail _ (.tail _ (.head _)))))) (andL wj_4) (andR wj_4) (fun _ _ h => h) ws_4 wi_4 hels
  | 5, _, _ => exact sumG_ok (ctx := cxW) (n := 1000) (m := 100000) (g := 92) (D := WT 5) (pcx := []) (cxW_ok' hE.toFok5) nm mixed (hE.ws 45 (WT 5) (.tail _ (.tail _ (.tail _ (.head _))))) (andL wj_5) (andR wj_5) (fun _ _ h => h) ws_5 wi_5 hels
  | 6, _, _ => exact sumG_ok (ctx := cxW) (n := 1000) (m := 100000) (g := 92) (D := WT 6) (pcx := []) (cxW_ok' hE.toFok5) nm mixed (hE.ws 46 (WT 6) (.tail _ (.tail _ (.head _)))) (andL wj_6) (andR wj_6) (fun _ _ h => h) ws_6 wi_6 hels
  | 7, _, _ => exact sumG_ok (ctx := cxW) (n := 1000) (m := 100000) (g := 92) (D := WT 7) (pcx := []) (cxW_ok' hE.toFok5) nm mixed (hE.ws 47 (WT 7) (.tail _ (.head _))) (andL wj_7) (andR wj_7) (fun _ _ h => h) ws_7 wi_7 hels
  | 8, _, _ => exact sumG_ok (ctx := cxW) (n := 1000) (m := 100000) (g := 92) (D := WT 8) (pcx := []) (cxW_ok' hE.toFok5) nm mixed (hE.ws 48 (WT 8) (.head _)) (andL wj_8) (andR wj_8) (fun _ _ h => h) ws_8 wi_8 hels
def wFits : List SV → Option Nat
  | [.sl _ _ n, .agg _, .agg _] => match Nat.ble 1 n && Nat.ble n 8 with
    | true => some n
    | false => none
  | _ => none
theorem wFits_ok {args : List SV} {n : Nat} (h : wFits args = some n) : 1 ≤ n ∧ n ≤ 8 := by
  unfold wFits at h
  split at h
  · split at h
    · rename_i hb
      cases h
      simp only [Bool.and_eq_true] at hb
      exact ⟨Nat.le_of_ble_eq_true hb.1, Nat.le_of_ble_eq_true hb.2⟩
    · cases h
  · cases h
def wDisp (S : Nat → Sum) (els : Sum) : Sum := fun args m pc => match wFits args with
  | some n => S n args m pc
  | none => els args m pc
theorem wDisp_ok {E : Env} {f : Nat} {S : Nat → Sum} {els : Sum} (h : ∀ n, 1 ≤ n → n ≤ 8 → SumOk Try.prog E f (S n)) (k : SumOk Try.prog E f els) : SumOk Try.prog E f (wDisp S els) := by
  intro args m pc r hr
  unfold wDisp at hr
  split at hr
  · rename_i n hn; exact h n (wFits_ok hn).1 (wFits_ok hn).2 args m pc r hr
  · exact k args m pc r hr
theorem wDisp_pc {E : Env} {S : Nat → Sum} {els : Sum} (h : ∀ n args m pc, PcOk E pc → Pcs E Res.pc (S n args m pc)) (k : ∀ args m pc, PcOk E pc → Pcs E Res.pc (els args m pc)) (args : List SV) (m : Mm) (pc : PC) (hp : PcOk E pc) : Pcs E Res.pc (wDisp S els args m pc) := by
  unfold wDisp
  split
  · exact h _ args m pc hp
  · exact k args m pc hp
def cxV : Ctx := ctxL ((92, wDisp wkS (call cxW Try.prog 1000 92)) :: (94, wDisp wkI (call cxW Try.prog 1000 94)) :: (93, orS LeafV.toC (call (ctxL l2) Try.prog 1000 93)) :: (95, orS LeafV.eqC (call (ctxL l2) Try.prog 1000 95)) :: (165, finC unS) :: (166, finC unI) :: (203, lkS) :: (206, lkI) :: (240, cbS) :: (245, cbI) :: l2)
theorem cxV_okF {E : Env} (hE : Fok7 E.fn) : CtxOk Try.prog E cxV ∧ CtxPc E cxV :=
  have hW := cxW_okF hE.toFok5
  ctxL_cons (ctxL_cons hW (wDisp_ok (wkI_ok hE) (call_ok hW.1 hW.2 nm mixed 1000 94)) (wDisp_pc (fun n args m pc hp => sumQ_pc (call_pc hW.2 1000 94) args m pc hp) (call_pc hW.2 1000 94)))
    (wDisp_ok (wkS_ok hE) (call_ok hW.1 hW.2 nm mixed 1000 92)) (wDisp_pc (fun n args m pc hp => sumQ_pc (call_pc hW.2 1000 92) args m pc hp) (call_pc hW.2 1000 92))
theorem cxV_ok : ∀ E : Env, E.fn = F7 → CtxOk Try.prog E cxV ∧ CtxPc E cxV := fun E hE => cxV_okF (by rw [hE]; exact Fok7_F7)
end Go.Proofs.Ytamljpeicecbjaa.Leaf
namespace Go.Proofs.Ytamljpeicecbjaa.LeafX
open Go.Sx
def cxB : Ctx := Leaf.cxV
theorem cxB_ok : ∀ E : Env, E.fn = Leaf.F7 → CtxOk Try.prog E cxB ∧ CtxPc E cxB := Leaf.cxV_ok
theorem F2_900 : ∀ c, Leaf.F7 900 c = F900 c := Leaf.Fok7_F7.rows
end Go.Proofs.Ytamljpeicecbjaa.LeafX
