/- The contracts of the test of parts and of shifts. No condition. -/
import Derived.Test.YtamljpeicecbjaaIs1
import Derived.Test.YtamljpeicecbjaaIs5
import Derived.Test.YtamljpeicecbjaaIs6
import Derived.Test.YtamljpeicecbjaaSxAllZ
set_option linter.unusedVariables false
set_option linter.unusedSimpArgs false
set_option maxRecDepth 100000
noncomputable section
namespace Go.Proofs.Ytamljpeicecbjaa.Leaf
open Go.Sx
section
variable {E : Env}
def ckS (n : Nat) : Sum := sumQ (paU n) (okI n) (fun ts => mkR rpN ([Tm.il 0].map (Tm.subst ts))) (call cxC Try.prog 1000 152)
def elS (f : Nat) : Sum := call cxC Try.prog 1000 f
def sfY (n f t : Nat) : Sum := sumQ (paS n) (asY n f t) (fun ts => mkR rpS ((shI n f t 6 0).map (Tm.subst ts))) (sumQ (paS n) (asN n f t) (fun ts => mkR rpS ((z6I 6).map (Tm.subst ts))) (elS 67))
theorem elS_ok (hE : FokC E.fn) (f : Nat) : SumOk Try.prog E f (elS f) := call_ok (cxC_okF hE.toFok4).1 (cxC_okF hE.toFok4).2 nm mixed 1000 f
theorem elS_pc (hE : FokC E.fn) (f : Nat) : ∀ args m pc, PcOk E pc → Pcs E Res.pc (elS f args m pc) := call_pc (cxC_okF hE.toFok4).2 1000 f
theorem sf_one (hE : FokC E.fn) {n f t : Nat} (h1 : (treeIs rpS (oSY n f t) (listT (shI n f t 6 0)) && treeIs rpS (oSN n f t) (listT (z6I 6))) = true)
    (h2 : (((Nat.ble (bldP (paS n) 0 0).j 1000 && undersF (bldP (paS n) 0 0).n (asY n f t)) && ((Nat.beq (shI n f t 6 0).length 7 && Nat.beq 7 (sizeR rpS.2)) && underL (bldP (paS n) 0 0).n (shI n f t 6 0))) && ((Nat.ble (bldP (paS n) 0 0).j 1000 && undersF (bldP (paS n) 0 0).n (asN n f t)) && ((Nat.beq (z6I 6).length 7 && Nat.beq 7 (sizeR rpS.2)) && underL (bldP (paS n) 0 0).n (z6I 6)))) = true) : SumOk Try.prog E 67 (sfY n f t) :=
  sumT_okI (cxC_okC hE) (and_l h2) (and_l h1) (sumT_okI (cxC_okC hE) (and_r h2) (and_r h1) (elS_ok hE 67))
theorem sf_pc (hE : FokC E.fn) (n f t : Nat) : ∀ args m pc, PcOk E pc → Pcs E Res.pc (sfY n f t args m pc) := fun args m pc hp => sumQ_pc (fun args m pc hp => sumQ_pc (elS_pc hE 67) args m pc hp) args m pc hp
theorem sf_ok (hE : FokC E.fn) : ∀ n f t, 1 ≤ n → n ≤ 6 → f < n → t < n → f ≠ t → SumOk Try.prog E 67 (sfY n f t) := fun n f t h1 h6 hf ht hne => match n, f, t, h1, h6, hf, ht, hne with
  | 1, 0, 0, _, _, _, _, h => absurd rfl h
  | 2, 0, 0, _, _, _, _, h => absurd rfl h
  | 2, 0, 1, _, _, _, _, _ => sf_one hE ky_2_0_1 kz_2_0_1
  | 2, 1, 0, _, _, _, _, _ => sf_one hE ky_2_1_0 kz_2_1_0
  | 2, 1, 1, _, _, _, _, h => absurd rfl h
  | 3, 0, 0, _, _, _, _, h => absurd rfl h
  | 3, 0, 1, _, _, _, _, _ => sf_one hE ky_3_0_1 kz_3_0_1
  | 3, 0, 2, _, _, _, _, _ => sf_one hE ky_3_0_2 kz_3_0_2
  | 3, 1, 0, _, _, _, _, _ => sf_one hE ky_3_1_0 kz_3_1_0
  | 3, 1, 1, _, _, _, _, h => absurd rfl h
  | 3, 1, 2, _, _, _, _, _ => sf_one hE ky_3_1_2 kz_3_1_2
  | 3, 2, 0, _, _, _, _, _ => sf_one hE ky_3_2_0 kz_3_2_0
  | 3, 2, 1, _, _, _, _, _ => sf_one hE ky_3_2_1 kz_3_2_1
  | 3, 2, 2, _, _, _, _, h => absurd rfl h
  | 4, 0, 0, _, _, _, _, h => absurd rfl h
  | 4, 0, 1, _, _, _, _, _ => sf_one hE ky_4_0_1 kz_4_0_1
  | 4, 0, 2, _, _, _, _, _ => sf_one hE ky_4_0_2 kz_4_0_2
  | 4, 0, 3, _, _, _, _, _ => sf_one hE ky_4_0_3 kz_4_0_3
  | 4, 1, 0, _, _, _, _, _ => sf_one hE ky_4_1_0 kz_4_1_0
  | 4, 1, 1, _, _, _, _, h => absurd rfl h
  | 4, 1, 2, _, _, _, _, _ => sf_one hE ky_4_1_2 kz_4_1_2
  | 4, 1, 3, _, _, _, _, _ => sf_one hE ky_4_1_3 kz_4_1_3
  | 4, 2, 0, _, _, _, _, _ => sf_one hE ky_4_2_0 kz_4_2_0
  | 4, 2, 1, _, _, _, _, _ => sf_one hE ky_4_2_1 kz_4_2_1
  | 4, 2, 2, _, _, _, _, h => absurd rfl h
  | 4, 2, 3, _, _, _, _, _ => sf_one hE ky_4_2_3 kz_4_2_3
  | 4, 3, 0, _, _, _, _, _ => sf_one hE ky_4_3_0 kz_4_3_0
  | 4, 3, 1, _, _, _, _, _ => sf_one hE ky_4_3_1 kz_4_3_1
  | 4, 3, 2, _, _, _, _, _ => sf_one hE ky_4_3_2 kz_4_3_2
  | 4, 3, 3, _, _, _, _, h => absurd rfl h
  | 5, 0, 0, _, _, _, _, h => absurd rfl h
  | 5, 0, 1, _, _, _, _, _ => sf_one hE ky_5_0_1 kz_5_0_1
  | 5, 0, 2, _, _, _, _, _ => sf_one hE ky_5_0_2 kz_5_0_2
  | 5, 0, 3, _, _, _, _, _ => sf_one hE ky_5_0_3 kz_5_0_3
  | 5, 0, 4, _, _, _, _, _ => sf_one hE ky_5_0_4 kz_5_0_4
  | 5, 1, 0, _, _, _, _, _ => sf_one hE ky_5_1_0 kz_5_1_0
  | 5, 1, 1, _, _, _, _, h => absurd rfl h
  | 5, 1, 2, _, _, _, _, _ => sf_one hE ky_5_1_2 kz_5_1_2
  | 5, 1, 3, _, _, _, _, _ => sf_one hE ky_5_1_3 kz_5_1_3
  | 5, 1, 4, _, _, _, _, _ => sf_one hE ky_5_1_4 kz_5_1_4
  | 5, 2, 0, _, _, _, _, _ => sf_one hE ky_5_2_0 kz_5_2_0
  | 5, 2, 1, _, _, _, _, _ => sf_one hE ky_5_2_1 kz_5_2_1
  | 5, 2, 2, _, _, _, _, h => absurd rfl h
  | 5, 2, 3, _, _, _, _, _ => sf_one hE ky_5_2_3 kz_5_2_3
  | 5, 2, 4, _, _, _, _, _ => sf_one hE ky_5_2_4 kz_5_2_4
  | 5, 3, 0, _, _, _, _, _ => sf_one hE ky_5_3_0 kz_5_3_0
  | 5, 3, 1, _, _, _, _, _ => sf_one hE ky_5_3_1 kz_5_3_1
  | 5, 3, 2, _, _, _, _, _ => sf_one hE ky_5_3_2 kz_5_3_2
  | 5, 3, 3, _, _, _, _, h => absurd rfl h
  | 5, 3, 4, _, _, _, _, _ => sf_one hE ky_5_3_4 kz_5_3_4
  | 5, 4, 0, _, _, _, _, _ => sf_one hE ky_5_4_0 kz_5_4_0
  | 5, 4, 1, _, _, _, _, _ => sf_one hE ky_5_4_1 kz_5_4_1
  | 5, 4, 2, _, _, _, _, _ => sf_one hE ky_5_4_2 kz_5_4_2
  | 5, 4, 3, _, _, _, _, _ => sf_one hE ky_5_4_3 kz_5_4_3
  | 5, 4, 4, _, _, _, _, h => absurd rfl h
  | 6, 0, 0, _, _, _, _, h => absurd rfl h
  | 6, 0, 1, _, _, _, _, _ => sf_one hE ky_6_0_1 kz_6_0_1
  | 6, 0, 2, _, _, _, _, _ => sf_one hE ky_6_0_2 kz_6_0_2
  | 6, 0, 3, _, _, _, _, _ => sf_one hE ky_6_0_3 kz_6_0_3
  | 6, 0, 4, _, _, _, _, _ => sf_one hE ky_6_0_4 kz_6_0_4
  | 6, 0, 5, _, _, _, _, _ => sf_one hE ky_6_0_5 kz_6_0_5
  | 6, 1, 0, _, _, _, _, _ => sf_one hE ky_6_1_0 kz_6_1_0
  | 6, 1, 1, _, _, _, _, h => absurd rfl h
  | 6, 1, 2, _, _, _, _, _ => sf_one hE ky_6_1_2 kz_6_1_2
  | 6, 1, 3, _, _, _, _, _ => sf_one hE ky_6_1_3 kz_6_1_3
  | 6, 1, 4, _, _, _, _, _ => sf_one hE ky_6_1_4 kz_6_1_4
  | 6, 1, 5, _, _, _, _, _ => sf_one hE ky_6_1_5 kz_6_1_5
  | 6, 2, 0, _, _, _, _, _ => sf_one hE ky_6_2_0 kz_6_2_0
  | 6, 2, 1, _, _, _, _, _ => sf_one hE ky_6_2_1 kz_6_2_1
  | 6, 2, 2, _, _, _, _, h => absurd rfl h
  | 6, 2, 3, _, _, _, _, _ => sf_one hE ky_6_2_3 kz_6_2_3
  | 6, 2, 4, _, _, _, _, _ => sf_one hE ky_6_2_4 kz_6_2_4
  | 6, 2, 5, _, _, _, _, _ => sf_one hE ky_6_2_5 kz_6_2_5
  | 6, 3, 0, _, _, _, _, _ => sf_one hE ky_6_3_0 kz_6_3_0
  | 6, 3, 1, _, _, _, _, _ => sf_one hE ky_6_3_1 kz_6_3_1
  | 6, 3, 2, _, _, _, _, _ => sf_one hE ky_6_3_2 kz_6_3_2
  | 6, 3, 3, _, _, _, _, h => absurd rfl h
  | 6, 3, 4, _, _, _, _, _ => sf_one hE ky_6_3_4 kz_6_3_4
  | 6, 3, 5, _, _, _, _, _ => sf_one hE ky_6_3_5 kz_6_3_5
  | 6, 4, 0, _, _, _, _, _ => sf_one hE ky_6_4_0 kz_6_4_0
  | 6, 4, 1, _, _, _, _, _ => sf_one hE ky_6_4_1 kz_6_4_1
  | 6, 4, 2, _, _, _, _, _ => sf_one hE ky_6_4_2 kz_6_4_2
  | 6, 4, 3, _, _, _, _, _ => sf_one hE ky_6_4_3 kz_6_4_3
  | 6, 4, 4, _, _, _, _, h => absurd rfl h
  | 6, 4, 5, _, _, _, _, _ => sf_one hE ky_6_4_5 kz_6_4_5
  | 6, 5, 0, _, _, _, _, _ => sf_one hE ky_6_5_0 kz_6_5_0
  | 6, 5, 1, _, _, _, _, _ => sf_one hE ky_6_5_1 kz_6_5_1
  | 6, 5, 2, _, _, _, _, _ => sf_one hE ky_6_5_2 kz_6_5_2
  | 6, 5, 3, _, _, _, _, _ => sf_one hE ky_6_5_3 kz_6_5_3
  | 6, 5, 4, _, _, _, _, _ => sf_one hE ky_6_5_4 kz_6_5_4
  | 6, 5, 5, _, _, _, _, h => absurd rfl h
theorem ck_ok (hE : FokC E.fn) (n : Nat) (h1 : 1 ≤ n) (h6 : n ≤ 6) : SumOk Try.prog E 152 (ckS n) := by
  match n, h1, h6 with
  | 1, _, _ => exact sumT_okI (cxC_okC hE) kd_1 kc_1 (elS_ok hE 152)
  | 2, _, _ => exact sumT_okI (cxC_okC hE) kd_2 kc_2 (elS_ok hE 152)
  | 3, _, _ => exact sumT_okI (cxC_okC hE) kd_3 kc_3 (elS_ok hE 152)
  | 4, _, _ => exact sumT_okI (cxC_okC hE) kd_4 kc_4 (elS_ok hE 152)
  | 5, _, _ => exact sumT_okI (cxC_okC hE) kd_5 kc_5 (elS_ok hE 152)
  | 6, _, _ => exact sumT_okI (cxC_okC hE) kd_6 kc_6 (elS_ok hE 152)
theorem ck_pc (hE : FokC E.fn) (n : Nat) : ∀ args m pc, PcOk E pc → Pcs E Res.pc (ckS n args m pc) := fun args m pc hp => sumQ_pc (elS_pc hE 152) args m pc hp
def shArgS : List SV → Mem → Option (Nat × Nat × Nat)
  | [s, _, .sc _ (.il (.ofNat f)), .sc _ (.il (.ofNat t)), _], mem => match shArg [s] mem with
    | some n => match Nat.blt f n, Nat.blt t n, Nat.beq f t with
      | true, true, false => some (n, f, t)
      | _, _, _ => none
    | none => none
  | _, _ => none
theorem shArgS_ok {args : List SV} {mem : Mem} {n f t : Nat} (h : shArgS args mem = some (n, f, t)) : 1 ≤ n ∧ n ≤ 6 ∧ f < n ∧ t < n ∧ f ≠ t := by
  unfold shArgS at h
  split at h
  · split at h
    · rename_i k hk
      split at h
      · rename_i h1 h2 h3
        cases h
        obtain ⟨g1, g2⟩ := shArg_ok hk
        refine ⟨g1, g2, by simpa [Nat.blt_eq] using h1, by simpa [Nat.blt_eq] using h2, fun e => ?_⟩
        subst e
        simp at h3
      · cases h
    · cases h
  · cases h
def sfD : Sum := fun args m pc => match shArgS args m.mem with
  | some (n, f, t) => sfY n f t args m pc
  | none => elS 67 args m pc
theorem sfD_ok (hE : FokC E.fn) : SumOk Try.prog E 67 sfD := by
  intro args m pc r hr
  unfold sfD at hr
  split at hr
  · rename_i n f t h
    obtain ⟨a, b, c, d, e⟩ := shArgS_ok h
    exact sf_ok hE n f t a b c d e args m pc r hr
  · exact elS_ok hE 67 args m pc r hr
theorem sfD_pc (hE : FokC E.fn) (args : List SV) (m : Mm) (pc : PC) (hp : PcOk E pc) : Pcs E Res.pc (sfD args m pc) := by
  unfold sfD
  split
  · exact sf_pc hE _ _ _ args m pc hp
  · exact elS_pc hE 67 args m pc hp
def cxO : Ctx := ctxL ((152, shiftY (disp shArg2 ckS (elS 152))) :: (67, sfD) :: (177, disp shPtr2 cvS (elC 177)) :: (178, disp shArg2 cvI (elC 178)) :: (152, shiftX (call cxC Try.prog 1000 152)) :: (157, disp shPtr2 mxN (call cxB Try.prog 1000 157)) :: (69, disp shArg2 mxI (call cxB Try.prog 1000 69)) :: (157, disp shPtr2 mxS (call cxB Try.prog 1000 157)) :: (172, thick 172) :: (174, thick 174) :: (173, offS 173) :: (175, offS 175) :: orL (ctxL l3) Try.prog 1000 l5)
theorem cxO_okF (hE : FokC E.fn) : CtxOk Try.prog E cxO ∧ CtxPc E cxO :=
  ctxL_cons (ctxL_cons (cxN_okF hE) (sfD_ok hE) (sfD_pc hE))
    (shiftY_ok (disp_ok (fun _ _ n hn => ck_ok hE n (shArg2_ok hn).1 (shArg2_ok hn).2) (elS_ok hE 152))) (shiftY_pc (disp_pc (fun n => ck_pc hE n) (elS_pc hE 152)))
end
end Go.Proofs.Ytamljpeicecbjaa.Leaf
set_option linter.unusedVariables false
set_option linter.unusedSimpArgs false
set_option maxRecDepth 100000
noncomputable section
namespace Go.Proofs.Ytamljpeicecbjaa.Leaf
open Go.Sx
def rpO : Rp := (true, [(false, [.float .f32]), (false, [.int .i64])])
def paO (n : Nat) : List Pa := [.aggS n pgs t6, .agg f6, .agg f16]
def paG (n : Nat) : List Pa := [.pt (.bool :: (f16 ++ times [.float .f32] 3)), .ptS n pgs t6, .agg f6]
def upto : Nat → Nat → List Nat
  | 0, _ => []
  | m + 1, n => n :: upto m (n + 1)
def piG (n : Nat) : List Nat := upto (12 + 34 * n) 20 ++ upto 16 1
def asG (n : Nat) : PC := (.var 0, false) :: substF (selV (piG n)) (asM n)
def oOI (n : Nat) : Out Res := callQ Try.prog cxO 1000 111 (paO n) (okI n)
def oOG (n : Nat) : Out Res := callQ Try.prog cxO 1000 179 (paG n) (asG n)
def OD (n : Nat) : Tm := (treeT rpO (oOI n)).getD .nil
def DsO : List (Nat × Tm) := (266, OD 6) :: (265, OD 5) :: (264, OD 4) :: (263, OD 3) :: (262, OD 2) :: (261, OD 1) :: DsC
def FO : Nat → Sc → Sc := buildF F1 DsO
theorem ascO : defsAsc DsO 900 = true := by kernel_rfl
structure FokO (F : Nat → Sc → Sc) : Prop extends FokC F where
  of : ∀ id D, (id, D) ∈ DsO → ∀ c, F id c = D.den ⟨fun i => c.at_ i, F⟩
theorem fo_1 : treeIs rpO (oOI 1) (OD 1) = true := by kernel_rfl
theorem fg_1 : treeIs rpO (oOG 1) ((OD 1).subst (selV (piG 1))) = true := by kernel_rfl
theorem fj_1 : ((Nat.ble (bldP (paO 1) 0 0).j 1000 && undersF (bldP (paO 1) 0 0).n (okI 1)) && ((OD 1).under (bldP (paO 1) 0 0).n && Nat.beq 2 (sizeR rpO.2))) = true := by kernel_rfl
theorem fk_1 : ((Nat.ble (bldP (paG 1) 0 0).j 1000 && undersF (bldP (paG 1) 0 0).n (asG 1)) && (((OD 1).under (piG 1).length && Nat.beq 2 (sizeR rpO.2)) && allLt (bldP (paG 1) 0 0).n (piG 1))) = true := by kernel_rfl
theorem fo_2 : treeIs rpO (oOI 2) (OD 2) = true := by kernel_rfl
theorem fg_2 : treeIs rpO (oOG 2) ((OD 2).subst (selV (piG 2))) = true := by kernel_rfl
theorem fj_2 : ((Nat.ble (bldP (paO 2) 0 0).j 1000 && undersF (bldP (paO 2) 0 0).n (okI 2)) && ((OD 2).under (bldP (paO 2) 0 0).n && Nat.beq 2 (sizeR rpO.2))) = true := by kernel_rfl
theorem fk_2 : ((Nat.ble (bldP (paG 2) 0 0).j 1000 && undersF (bldP (paG 2) 0 0).n (asG 2)) && (((OD 2).under (piG 2).length && Nat.beq 2 (sizeR rpO.2)) && allLt (bldP (paG 2) 0 0).n (piG 2))) = true := by kernel_rfl
theorem fo_3 : treeIs rpO (oOI 3) (OD 3) = true := by kernel_rfl
theorem fg_3 : treeIs rpO (oOG 3) ((OD 3).subst (selV (piG 3))) = true := by kernel_rfl
theorem fj_3 : ((Nat.ble (bldP (paO 3) 0 0).j 1000 && undersF (bldP (paO 3) 0 0).n (okI 3)) && ((OD 3).under (bldP (paO 3) 0 0).n && Nat.beq 2 (sizeR rpO.2))) = true := by kernel_rfl
theorem fk_3 : ((Nat.ble (bldP (paG 3) 0 0).j 1000 && undersF (bldP (paG 3) 0 0).n (asG 3)) && (((OD 3).under (piG 3).length && Nat.beq 2 (sizeR rpO.2)) && allLt (bldP (paG 3) 0 0).n (piG 3))) = true := by kernel_rfl
theorem fo_4 : treeIs rpO (oOI 4) (OD 4) = true := by kernel_rfl
theorem fg_4 : treeIs rpO (oOG 4) ((OD 4).subst (selV (piG 4))) = true := by kernel_rfl
theorem fj_4 : ((Nat.ble (bldP (paO 4) 0 0).j 1000 && undersF (bldP (paO 4) 0 0).n (okI 4)) && ((OD 4).under (bldP (paO 4) 0 0).n && Nat.beq 2 (sizeR rpO.2))) = true := by kernel_rfl
theorem fk_4 : ((Nat.ble (bldP (paG 4) 0 0).j 1000 && undersF (bldP (paG 4) 0 0).n (asG 4)) && (((OD 4).under (piG 4).length && Nat.beq 2 (sizeR rpO.2)) && allLt (bldP (paG 4) 0 0).n (piG 4))) = true := by kernel_rfl
theorem fo_5 : treeIs rpO (oOI 5) (OD 5) = true := by kernel_rfl
theorem fg_5 : treeIs rpO (oOG 5) ((OD 5).subst (selV (piG 5))) = true := by kernel_rfl
theorem fj_5 : ((Nat.ble (bldP (paO 5) 0 0).j 1000 && undersF (bldP (paO 5) 0 0).n (okI 5)) && ((OD 5).under (bldP (paO 5) 0 0).n && Nat.beq 2 (sizeR rpO.2))) = true := by kernel_rfl
theorem fk_5 : ((Nat.ble (bldP (paG 5) 0 0).j 1000 && undersF (bldP (paG 5) 0 0).n (asG 5)) && (((OD 5).under (piG 5).length && Nat.beq 2 (sizeR rpO.2)) && allLt (bldP (paG 5) 0 0).n (piG 5))) = true := by kernel_rfl
theorem fo_6 : treeIs rpO (oOI 6) (OD 6) = true := by kernel_rfl
theorem fg_6 : treeIs rpO (oOG 6) ((OD 6).subst (selV (piG 6))) = true := by kernel_rfl
theorem fj_6 : ((Nat.ble (bldP (paO 6) 0 0).j 1000 && undersF (bldP (paO 6) 0 0).n (okI 6)) && ((OD 6).under (bldP (paO 6) 0 0).n && Nat.beq 2 (sizeR rpO.2))) = true := by kernel_rfl
theorem fk_6 : ((Nat.ble (bldP (paG 6) 0 0).j 1000 && undersF (bldP (paG 6) 0 0).n (asG 6)) && (((OD 6).under (piG 6).length && Nat.beq 2 (sizeR rpO.2)) && allLt (bldP (paG 6) 0 0).n (piG 6))) = true := by kernel_rfl
section
variable {E : Env}
theorem cxO_okO (hE : FokO E.fn) : ∀ E' : Env, E'.fn = E.fn → CtxOk Try.prog E' cxO ∧ CtxPc E' cxO := fun E' h => cxO_okF (by rw [h]; exact hE.toFokC)
def elO (f : Nat) : Sum := call cxO Try.prog 1000 f
theorem elO_ok (hE : FokO E.fn) (f : Nat) : SumOk Try.prog E f (elO f) := call_ok (cxO_okF hE.toFokC).1 (cxO_okF hE.toFokC).2 nm mixed 1000 f
theorem elO_pc (hE : FokO E.fn) (f : Nat) : ∀ args m pc, PcOk E pc → Pcs E Res.pc (elO f args m pc) := call_pc (cxO_okF hE.toFokC).2 1000 f
def ofI (n : Nat) : Sum := sumR (paO n) (okI n) rpO 2 (260 + n) (elO 111)
def ofG (n : Nat) : Sum := sumRp (paG n) (asG n) rpO 2 (260 + n) (piG n) (elO 179)
theorem ofI_ok (hE : FokO E.fn) (n : Nat) (h1 : 1 ≤ n) (h6 : n ≤ 6) : SumOk Try.prog E 111 (ofI n) := by
  match n, h1, h6 with
  | 1, _, _ => exact sumR_ok (ctx := cxO) (n := 1000) (D := OD 1) (pcx := okI 1) (cxO_okO hE) nm mixed (hE.of 261 (OD 1) (show (261, OD 1) ∈ DsO from .tail _ (.tail _ (.tail _ (.tail _ (.tail _ (.head _))))))) (and_l fj_1) (and_r fj_1) (fun _ _ h => h) fo_1 (elO_ok hE 111)
  | 2, _, _ => exact sumR_ok (ctx := cxO) (n := 1000) (D := OD 2) (pcx := okI 2) (cxO_okO hE) nm mixed (hE.of 262 (OD 2) (show (262, OD 2) ∈ DsO from .tail _ (.tail _ (.tail _ (.tail _ (.head _)))))) (and_l fj_2) (and_r fj_2) (fun _ _ h => h) fo_2 (elO_ok hE 111)
  | 3, _, _ => exact sumR_ok (ctx := cxO) (n := 1000) (D := OD 3) (pcx := okI 3) (cxO_okO hE) nm mixed (hE.of 263 (OD 3) (show (263, OD 3) ∈ DsO from .tail _ (.tail _ (.tail _ (.head _))))) (and_l fj_3) (and_r fj_3) (fun _ _ h => h) fo_3 (elO_ok hE 111)
  | 4, _, _ => exact sumR_ok (ctx := cxO) (n := 1000) (D := OD 4) (pcx := okI 4) (cxO_okO hE) nm mixed (hE.of 264 (OD 4) (show (264, OD 4) ∈ DsO from .tail _ (.tail _ (.head _)))) (and_l fj_4) (and_r fj_4) (fun _ _ h => h) fo_4 (elO_ok hE 111)
  | 5, _, _ => exact sumR_ok (ctx := cxO) (n := 1000) (D := OD 5) (pcx := okI 5) (cxO_okO hE) nm mixed (hE.of 265 (OD 5) (show (265, OD 5) ∈ DsO from .tail _ (.head _))) (and_l fj_5) (and_r fj_5) (fun _ _ h => h) fo_5 (elO_ok hE 111)
  | 6, _, _ => exact sumR_ok (ctx := cxO) (n := 1000) (D := OD 6) (pcx := okI 6) (cxO_okO hE) nm mixed (hE.of 266 (OD 6) (show (266, OD 6) ∈ DsO from .head _)) (and_l fj_6) (and_r fj_6) (fun _ _ h => h) fo_6 (elO_ok hE 111)
theorem ofG_ok (hE : FokO E.fn) (n : Nat) (h1 : 1 ≤ n) (h6 : n ≤ 6) : SumOk Try.prog E 179 (ofG n) := by
  match n, h1, h6 with
  | 1, _, _ => exact sumRp_ok (ctx := cxO) (n := 1000) (D := OD 1) (pcx := asG 1) (cxO_okO hE) nm mixed (hE.of 261 (OD 1) (show (261, OD 1) ∈ DsO from .tail _ (.tail _ (.tail _ (.tail _ (.tail _ (.head _))))))) fk_1 (fun _ _ h => h) fg_1 (elO_ok hE 179)
  | 2, _, _ => exact sumRp_ok (ctx := cxO) (n := 1000) (D := OD 2) (pcx := asG 2) (cxO_okO hE) nm mixed (hE.of 262 (OD 2) (show (262, OD 2) ∈ DsO from .tail _ (.tail _ (.tail _ (.tail _ (.head _)))))) fk_2 (fun _ _ h => h) fg_2 (elO_ok hE 179)
  | 3, _, _ => exact sumRp_ok (ctx := cxO) (n := 1000) (D := OD 3) (pcx := asG 3) (cxO_okO hE) nm mixed (hE.of 263 (OD 3) (show (263, OD 3) ∈ DsO from .tail _ (.tail _ (.tail _ (.head _))))) fk_3 (fun _ _ h => h) fg_3 (elO_ok hE 179)
  | 4, _, _ => exact sumRp_ok (ctx := cxO) (n := 1000) (D := OD 4) (pcx := asG 4) (cxO_okO hE) nm mixed (hE.of 264 (OD 4) (show (264, OD 4) ∈ DsO from .tail _ (.tail _ (.head _)))) fk_4 (fun _ _ h => h) fg_4 (elO_ok hE 179)
  | 5, _, _ => exact sumRp_ok (ctx := cxO) (n := 1000) (D := OD 5) (pcx := asG 5) (cxO_okO hE) nm mixed (hE.of 265 (OD 5) (show (265, OD 5) ∈ DsO from .tail _ (.head _))) fk_5 (fun _ _ h => h) fg_5 (elO_ok hE 179)
  | 6, _, _ => exact sumRp_ok (ctx := cxO) (n := 1000) (D := OD 6) (pcx := asG 6) (cxO_okO hE) nm mixed (hE.of 266 (OD 6) (show (266, OD 6) ∈ DsO from .head _)) fk_6 (fun _ _ h => h) fg_6 (elO_ok hE 179)
def shArgO : List SV → Mem → Option Nat
  | [s, _, _], mem => shArg [s] mem
  | _, _ => none
theorem shArgO_ok {args : List SV} {mem : Mem} {k : Nat} (h : shArgO args mem = some k) : 1 ≤ k ∧ k ≤ 6 := by
  unfold shArgO at h
  split at h
  · exact shArg_ok h
  · cases h
def shPtrG : List SV → Mem → Option Nat
  | [_, s, _], mem => shPtr [s] mem
  | _, _ => none
theorem shPtrG_ok {args : List SV} {mem : Mem} {k : Nat} (h : shPtrG args mem = some k) : 1 ≤ k ∧ k ≤ 6 := by
  unfold shPtrG at h
  split at h
  · exact shPtr_ok h
  · cases h
def cxQ : Ctx := ctxL ((111, shiftW (disp shArgO ofI (elO 111))) :: (179, disp shPtrG ofG (elO 179)) :: (152, shiftY (disp shArg2 ckS (elS 152))) :: (67, sfD) :: (177, disp shPtr2 cvS (elC 177)) :: (178, disp shArg2 cvI (elC 178)) :: (152, shiftX (call cxC Try.prog 1000 152)) :: (157, disp shPtr2 mxN (call cxB Try.prog 1000 157)) :: (69, disp shArg2 mxI (call cxB Try.prog 1000 69)) :: (157, disp shPtr2 mxS (call cxB Try.prog 1000 157)) :: (172, thick 172) :: (174, thick 174) :: (173, offS 173) :: (175, offS 175) :: orL (ctxL l3) Try.prog 1000 l5)
theorem cxQ_okF (hE : FokO E.fn) : CtxOk Try.prog E cxQ ∧ CtxPc E cxQ :=
  ctxL_cons (ctxL_cons (cxO_okF hE.toFokC)
    (disp_ok (fun _ _ n hn => ofG_ok hE n (shPtrG_ok hn).1 (shPtrG_ok hn).2) (elO_ok hE 179)) (disp_pc (fun n => fun args m pc hp => sumQ_pc (elO_pc hE 179) args m pc hp) (elO_pc hE 179)))
    (shiftW_ok (disp_ok (fun _ _ n hn => ofI_ok hE n (shArgO_ok hn).1 (shArgO_ok hn).2) (elO_ok hE 111))) (shiftW_pc (disp_pc (fun n => fun args m pc hp => sumQ_pc (elO_pc hE 111) args m pc hp) (elO_pc hE 111)))
end
end Go.Proofs.Ytamljpeicecbjaa.Leaf
