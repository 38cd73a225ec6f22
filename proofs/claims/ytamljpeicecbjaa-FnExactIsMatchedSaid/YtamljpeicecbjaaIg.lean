/- The contracts of whether it is matched. No condition. -/
import Derived.Test.YtamljpeicecbjaaIk1
import Derived.Test.YtamljpeicecbjaaIk5
import Derived.Test.YtamljpeicecbjaaIk7
import Derived.Test.YtamljpeicecbjaaIk6
import Derived.Test.YtamljpeicecbjaaIk8
set_option linter.unusedVariables false
set_option linter.unusedSimpArgs false
set_option maxRecDepth 100000
noncomputable section
namespace Go.Proofs.Ytamljpeicecbjaa.Leaf
open Go.Sx
theorem bI {a b : Bool} (h : (a && b) = true) : a = true ∧ b = true := by simpa using h
def DsI : List (Nat × Tm) := (276, ID 6) :: (275, ID 5) :: (274, ID 4) :: (273, ID 3) :: (272, ID 2) :: (271, ID 1) :: DsO
def FI : Nat → Sc → Sc := buildF F1 DsI
theorem asc271 : defsAsc DsO 271 = true := by kernel_rfl
theorem ascI : defsAsc DsI 900 = true := defsAsc_consI rfl (bI iu_6).2 (defsAsc_consI rfl (bI iu_5).2 (defsAsc_consI rfl (bI iu_4).2 (defsAsc_consI rfl (bI iu_3).2 (defsAsc_consI rfl (bI iu_2).2 (defsAsc_consI rfl (bI iu_1).2 asc271)))))
structure FokI (F : Nat → Sc → Sc) : Prop extends FokO F where
  im : ∀ id D, (id, D) ∈ DsI → ∀ c, F id c = D.den ⟨fun i => c.at_ i, F⟩
theorem FokI_FI : FokI FI where
  defs := fun _ _ h c => buildF_def ascI (.tail _ (.tail _ (.tail _ (.tail _ (.tail _ (.tail _ (.tail _ (.tail _ (.tail _ (.tail _ (.tail _ (.tail _ (.tail _ (.tail _ (.tail _ (.tail _ (.tail _ (.tail _ (.tail _ (.tail _ (.tail _ (.tail _ (.tail _ (.tail _ (.tail _ (.tail _ (h))))))))))))))))))))))))))) c
  rows := fun c => by
    have h : FI 900 = F1 900 := buildF_base (by kernel_rfl)
    rw [h]; simp [F1]
  name := fun c => by
    have h : FI 0 = F1 0 := buildF_base (by kernel_rfl)
    rw [h]; simp [F1]
  size := fun c => by
    have h : FI 1 = F1 1 := buildF_base (by kernel_rfl)
    rw [h]; simp [F1]
  defs3 := fun _ _ h c => buildF_def ascI (.tail _ (.tail _ (.tail _ (.tail _ (.tail _ (.tail _ (.tail _ (.tail _ (.tail _ (.tail _ (.tail _ (.tail _ (.tail _ (.tail _ (.tail _ (.tail _ (.tail _ (.tail _ (.tail _ (.tail _ (.tail _ (.tail _ (.tail _ (.tail _ (h))))))))))))))))))))))))) c
  defs4 := fun _ _ h c => buildF_def ascI (.tail _ (.tail _ (.tail _ (.tail _ (.tail _ (.tail _ (.tail _ (.tail _ (.tail _ (.tail _ (.tail _ (.tail _ (.tail _ (.tail _ (.tail _ (.tail _ (.tail _ (.tail _ (h))))))))))))))))))) c
  cv := fun _ _ h c => buildF_def ascI (.tail _ (.tail _ (.tail _ (.tail _ (.tail _ (.tail _ (.tail _ (.tail _ (.tail _ (.tail _ (.tail _ (.tail _ (h))))))))))))) c
  of := fun _ _ h c => buildF_def ascI (.tail _ (.tail _ (.tail _ (.tail _ (.tail _ (.tail _ (h))))))) c
  im := fun _ _ h c => buildF_def ascI h c
section
variable {E : Env}
theorem cxR_ok' (hE : FokI E.fn) : ∀ E' : Env, E'.fn = E.fn → CtxOk Try.prog E' cxR ∧ CtxPc E' cxR := fun E' h => cxR_okF (by rw [h]; exact hE.toFokO)
def elI (f : Nat) : Sum := call cxR Try.prog 1000 f
theorem elI_ok (hE : FokI E.fn) (f : Nat) : SumOk Try.prog E f (elI f) := call_ok (cxR_okF hE.toFokO).1 (cxR_okF hE.toFokO).2 nm mixed 1000 f
theorem elI_pc (hE : FokI E.fn) (f : Nat) : ∀ args m pc, PcOk E pc → Pcs E Res.pc (elI f args m pc) := call_pc (cxR_okF hE.toFokO).2 1000 f
def chI (f n : Nat) : Sum := sumR (paI n) (okI n) rpI 2 (270 + n) (elI f)
theorem chI_pc (hE : FokI E.fn) (f n : Nat) : ∀ args m pc, PcOk E pc → Pcs E Res.pc (chI f n args m pc) := fun args m pc hp => sumQ_pc (elI_pc hE f) args m pc hp
theorem cI115 (hE : FokI E.fn) (n : Nat) (h1 : 1 ≤ n) (h6 : n ≤ 6) : SumOk Try.prog E 115 (chI 115 n) := by
  match n, h1, h6 with
  | 1, _, _ => exact sumR_ok (ctx := cxR) (n := 1000) (D := ID 1) (pcx := pcI 1) (cxR_ok' hE) nm mixed (hE.im 271 (ID 1) (show (271, ID 1) ∈ DsI from .tail _ (.tail _ (.tail _ (.tail _ (.tail _ (.head _))))))) ij_1 (bI iu_1).1 (fun E' _ h => pcI_ok E' h) is_1 (elI_ok hE 115)
  | 2, _, _ => exact sumR_ok (ctx := cxR) (n := 1000) (D := ID 2) (pcx := pcI 2) (cxR_ok' hE) nm mixed (hE.im 272 (ID 2) (show (272, ID 2) ∈ DsI from .tail _ (.tail _ (.tail _ (.tail _ (.head _)))))) ij_2 (bI iu_2).1 (fun E' _ h => pcI_ok E' h) is_2 (elI_ok hE 115)
  | 3, _, _ => exact sumR_ok (ctx := cxR) (n := 1000) (D := ID 3) (pcx := pcI 3) (cxR_ok' hE) nm mixed (hE.im 273 (ID 3) (show (273, ID 3) ∈ DsI from .tail _ (.tail _ (.tail _ (.head _))))) ij_3 (bI iu_3).1 (fun E' _ h => pcI_ok E' h) is_3 (elI_ok hE 115)
  | 4, _, _ => exact sumR_ok (ctx := cxR) (n := 1000) (D := ID 4) (pcx := pcI 4) (cxR_ok' hE) nm mixed (hE.im 274 (ID 4) (show (274, ID 4) ∈ DsI from .tail _ (.tail _ (.head _)))) ij_4 (bI iu_4).1 (fun E' _ h => pcI_ok E' h) is_4 (elI_ok hE 115)
  | 5, _, _ => exact sumR_ok (ctx := cxR) (n := 1000) (D := ID 5) (pcx := pcI 5) (cxR_ok' hE) nm mixed (hE.im 275 (ID 5) (show (275, ID 5) ∈ DsI from .tail _ (.head _))) ij_5 (bI iu_5).1 (fun E' _ h => pcI_ok E' h) is_5 (elI_ok hE 115)
  | 6, _, _ => exact sumR_ok (ctx := cxR) (n := 1000) (D := ID 6) (pcx := pcI 6) (cxR_ok' hE) nm mixed (hE.im 276 (ID 6) (show (276, ID 6) ∈ DsI from .head _)) ij_6 (bI iu_6).1 (fun E' _ h => pcI_ok E' h) is_6 (elI_ok hE 115)
theorem cI116 (hE : FokI E.fn) (n : Nat) (h1 : 1 ≤ n) (h6 : n ≤ 6) : SumOk Try.prog E 116 (chI 116 n) := by
  match n, h1, h6 with
  | 1, _, _ => exact sumR_ok (ctx := cxR) (n := 1000) (D := ID 1) (pcx := pcI 1) (cxR_ok' hE) nm mixed (hE.im 271 (ID 1) (show (271, ID 1) ∈ DsI from .tail _ (.tail _ (.tail _ (.tail _ (.tail _ (.head _))))))) ij_1 (bI iu_1).1 (fun E' _ h => pcI_ok E' h) ia_1 (elI_ok hE 116)
  | 2, _, _ => exact sumR_ok (ctx := cxR) (n := 1000) (D := ID 2) (pcx := pcI 2) (cxR_ok' hE) nm mixed (hE.im 272 (ID 2) (show (272, ID 2) ∈ DsI from .tail _ (.tail _ (.tail _ (.tail _ (.head _)))))) ij_2 (bI iu_2).1 (fun E' _ h => pcI_ok E' h) ia_2 (elI_ok hE 116)
  | 3, _, _ => exact sumR_ok (ctx := cxR) (n := 1000) (D := ID 3) (pcx := pcI 3) (cxR_ok' hE) nm mixed (hE.im 273 (ID 3) (show (273, ID 3) ∈ DsI from .tail _ (.tail _ (.tail _ (.head _))))) ij_3 (bI iu_3).1 (fun E' _ h => pcI_ok E' h) ia_3 (elI_ok hE 116)
  | 4, _, _ => exact sumR_ok (ctx := cxR) (n := 1000) (D := ID 4) (pcx := pcI 4) (cxR_ok' hE) nm mixed (hE.im 274 (ID 4) (show (274, ID 4) ∈ DsI from .tail _ (.tail _ (.head _)))) ij_4 (bI iu_4).1 (fun E' _ h => pcI_ok E' h) ia_4 (elI_ok hE 116)
  | 5, _, _ => exact sumR_ok (ctx := cxR) (n := 1000) (D := ID 5) (pcx := pcI 5) (cxR_ok' hE) nm mixed (hE.im 275 (ID 5) (show (275, ID 5) ∈ DsI from .tail _ (.head _))) ij_5 (bI iu_5).1 (fun E' _ h => pcI_ok E' h) ia_5 (elI_ok hE 116)
  | 6, _, _ => exact sumR_ok (ctx := cxR) (n := 1000) (D := ID 6) (pcx := pcI 6) (cxR_ok' hE) nm mixed (hE.im 276 (ID 6) (show (276, ID 6) ∈ DsI from .head _)) ij_6 (bI iu_6).1 (fun E' _ h => pcI_ok E' h) ia_6 (elI_ok hE 116)
def shArgI : List SV → Mem → Option Nat
  | s :: _ :: _, mem => shArg [s] mem
  | _, _ => none
theorem shArgI_ok {args : List SV} {mem : Mem} {k : Nat} (h : shArgI args mem = some k) : 1 ≤ k ∧ k ≤ 6 := by
  unfold shArgI at h
  split at h
  · exact shArg_ok h
  · cases h
def cxIm : Ctx := ctxL ((115, disp shArgI (fun n => chI 115 n) (elI 115)) :: (116, disp shArgI (fun n => chI 116 n) (elI 116)) :: (111, shiftW (disp shArgO ofI' (elO 111))) :: (179, disp shPtrG ofG' (elO 179)) :: (67, sfE) :: (152, shiftY (disp shArg2 ckS (elS 152))) :: (67, sfD) :: (177, disp shPtr2 cvS (elC 177)) :: (178, disp shArg2 cvI (elC 178)) :: (152, shiftX (call cxC Try.prog 1000 152)) :: (157, disp shPtr2 mxN (call cxB Try.prog 1000 157)) :: (69, disp shArg2 mxI (call cxB Try.prog 1000 69)) :: (157, disp shPtr2 mxS (call cxB Try.prog 1000 157)) :: (172, thick 172) :: (174, thick 174) :: (173, offS 173) :: (175, offS 175) :: orL (ctxL l3) Try.prog 1000 l5)
theorem cxIm_okF (hE : FokI E.fn) : CtxOk Try.prog E cxIm ∧ CtxPc E cxIm :=
  ctxL_cons (ctxL_cons (cxR_okF hE.toFokO)
    (disp_ok (fun _ _ n hn => cI116 hE n (shArgI_ok hn).1 (shArgI_ok hn).2) (elI_ok hE 116)) (disp_pc (fun n => chI_pc hE 116 n) (elI_pc hE 116)))
    (disp_ok (fun _ _ n hn => cI115 hE n (shArgI_ok hn).1 (shArgI_ok hn).2) (elI_ok hE 115)) (disp_pc (fun n => chI_pc hE 115 n) (elI_pc hE 115))
end
end Go.Proofs.Ytamljpeicecbjaa.Leaf
namespace Go.Proofs.Ytamljpeicecbjaa.LeafIm
open Go.Sx
def cxB : Ctx := Leaf.cxIm
theorem cxB_ok : ∀ E : Env, E.fn = Leaf.FI → CtxOk Try.prog E cxB ∧ CtxPc E cxB := fun E hE => Leaf.cxIm_okF (by rw [hE]; exact Leaf.FokI_FI)
theorem F2_900 : ∀ c, Leaf.FI 900 c = F900 c := Leaf.FokI_FI.rows
end Go.Proofs.Ytamljpeicecbjaa.LeafIm
