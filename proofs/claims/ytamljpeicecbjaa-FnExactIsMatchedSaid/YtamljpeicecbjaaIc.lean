/- The contracts of what mixtures reflect; names for it. No condition. -/
import Derived.Test.YtamljpeicecbjaaIn
import Derived.Test.YtamljpeicecbjaaSxAllZ
set_option linter.unusedVariables false
set_option linter.unusedSimpArgs false
set_option maxRecDepth 100000
noncomputable section
namespace Go.Proofs.Ytamljpeicecbjaa.Leaf
open Go.Sx
def paU (n : Nat) : List Pa := [.aggS n pgs t6, .agg f6]
def oCS (n : Nat) : Out Res := callQ Try.prog cxC 1000 177 (paN n) (asM n)
def oCI (n : Nat) : Out Res := callQ Try.prog cxC 1000 178 (paU n) (asM n)
def CD (n : Nat) : Tm := (treeT rpC (oCS n)).getD .nil
def DsC : List (Nat × Tm) := (256, CD 6) :: (255, CD 5) :: (254, CD 4) :: (253, CD 3) :: (252, CD 2) :: (251, CD 1) :: Ds4
def FC : Nat → Sc → Sc := buildF F1 DsC
theorem ascC : defsAsc DsC 900 = true := by kernel_rfl
structure FokC (F : Nat → Sc → Sc) : Prop extends Fok4 F where
  cv : ∀ id D, (id, D) ∈ DsC → ∀ c, F id c = D.den ⟨fun i => c.at_ i, F⟩
theorem cs_1 : (treeIs rpC (oCS 1) (CD 1) && treeIs rpC (oCI 1) (CD 1)) = true := by kernel_rfl
theorem cj_1 : ((Nat.ble (bldP (paN 1) 0 0).j 1000 && undersF (bldP (paN 1) 0 0).n (asM 1)) && ((CD 1).under (bldP (paN 1) 0 0).n && Nat.beq 17 (sizeR rpC.2))) = true := by kernel_rfl
theorem ck_1 : ((Nat.ble (bldP (paU 1) 0 0).j 1000 && undersF (bldP (paU 1) 0 0).n (asM 1)) && ((CD 1).under (bldP (paU 1) 0 0).n && Nat.beq 17 (sizeR rpC.2))) = true := by kernel_rfl
theorem cs_2 : (treeIs rpC (oCS 2) (CD 2) && treeIs rpC (oCI 2) (CD 2)) = true := by kernel_rfl
theorem cj_2 : ((Nat.ble (bldP (paN 2) 0 0).j 1000 && undersF (bldP (paN 2) 0 0).n (asM 2)) && ((CD 2).under (bldP (paN 2) 0 0).n && Nat.beq 17 (sizeR rpC.2))) = true := by kernel_rfl
theorem ck_2 : ((Nat.ble (bldP (paU 2) 0 0).j 1000 && undersF (bldP (paU 2) 0 0).n (asM 2)) && ((CD 2).under (bldP (paU 2) 0 0).n && Nat.beq 17 (sizeR rpC.2))) = true := by kernel_rfl
theorem cs_3 : (treeIs rpC (oCS 3) (CD 3) && treeIs rpC (oCI 3) (CD 3)) = true := by kernel_rfl
theorem cj_3 : ((Nat.ble (bldP (paN 3) 0 0).j 1000 && undersF (bldP (paN 3) 0 0).n (asM 3)) && ((CD 3).under (bldP (paN 3) 0 0).n && Nat.beq 17 (sizeR rpC.2))) = true := by kernel_rfl
theorem ck_3 : ((Nat.ble (bldP (paU 3) 0 0).j 1000 && undersF (bldP (paU 3) 0 0).n (asM 3)) && ((CD 3).under (bldP (paU 3) 0 0).n && Nat.beq 17 (sizeR rpC.2))) = true := by kernel_rfl
theorem cs_4 : (treeIs rpC (oCS 4) (CD 4) && treeIs rpC (oCI 4) (CD 4)) = true := by kernel_rfl
theorem cj_4 : ((Nat.ble (bldP (paN 4) 0 0).j 1000 && undersF (bldP (paN 4) 0 0).n (asM 4)) && ((CD 4).under (bldP (paN 4) 0 0).n && Nat.beq 17 (sizeR rpC.2))) = true := by kernel_rfl
theorem ck_4 : ((Nat.ble (bldP (paU 4) 0 0).j 1000 && undersF (bldP (paU 4) 0 0).n (asM 4)) && ((CD 4).under (bldP (paU 4) 0 0).n && Nat.beq 17 (sizeR rpC.2))) = true := by kernel_rfl
theorem cs_5 : (treeIs rpC (oCS 5) (CD 5) && treeIs rpC (oCI 5) (CD 5)) = true := by kernel_rfl
theorem cj_5 : ((Nat.ble (bldP (paN 5) 0 0).j 1000 && undersF (bldP (paN 5) 0 0).n (asM 5)) && ((CD 5).under (bldP (paN 5) 0 0).n && Nat.beq 17 (sizeR rpC.2))) = true := by kernel_rfl
theorem ck_5 : ((Nat.ble (bldP (paU 5) 0 0).j 1000 && undersF (bldP (paU 5) 0 0).n (asM 5)) && ((CD 5).under (bldP (paU 5) 0 0).n && Nat.beq 17 (sizeR rpC.2))) = true := by kernel_rfl
theorem cs_6 : (treeIs rpC (oCS 6) (CD 6) && treeIs rpC (oCI 6) (CD 6)) = true := by kernel_rfl
theorem cj_6 : ((Nat.ble (bldP (paN 6) 0 0).j 1000 && undersF (bldP (paN 6) 0 0).n (asM 6)) && ((CD 6).under (bldP (paN 6) 0 0).n && Nat.beq 17 (sizeR rpC.2))) = true := by kernel_rfl
theorem ck_6 : ((Nat.ble (bldP (paU 6) 0 0).j 1000 && undersF (bldP (paU 6) 0 0).n (asM 6)) && ((CD 6).under (bldP (paU 6) 0 0).n && Nat.beq 17 (sizeR rpC.2))) = true := by kernel_rfl
section
variable {E : Env}
theorem cxC_okC (hE : FokC E.fn) : ∀ E' : Env, E'.fn = E.fn → CtxOk Try.prog E' cxC ∧ CtxPc E' cxC := fun E' h => cxC_okF (by rw [h]; exact hE.toFok4)
def elC (f : Nat) : Sum := call cxM Try.prog 1000 f
theorem elC_ok (hE : FokC E.fn) (f : Nat) : SumOk Try.prog E f (elC f) := call_ok (cxM_okF hE.toFok4).1 (cxM_okF hE.toFok4).2 nm mixed 1000 f
theorem elC_pc (hE : FokC E.fn) (f : Nat) : ∀ args m pc, PcOk E pc → Pcs E Res.pc (elC f args m pc) := call_pc (cxM_okF hE.toFok4).2 1000 f
def cvS (n : Nat) : Sum := sumR (paN n) (asM n) rpC 17 (250 + n) (elC 177)
def cvI (n : Nat) : Sum := sumR (paU n) (asM n) rpC 17 (250 + n) (elC 178)
theorem cvS_ok (hE : FokC E.fn) (n : Nat) (h1 : 1 ≤ n) (h6 : n ≤ 6) : SumOk Try.prog E 177 (cvS n) := by
  match n, h1, h6 with
  | 1, _, _ => exact sumR_ok (ctx := cxC) (n := 1000) (D := CD 1) (pcx := asM 1) (cxC_okC hE) nm mixed (hE.cv 251 (CD 1) (show (251, CD 1) ∈ DsC from .tail _ (.tail _ (.tail _ (.tail _ (.tail _ (.head _))))))) (and_l cj_1) (and_r cj_1) (fun _ _ h => h) (and_l cs_1) (elC_ok hE 177)
  | 2, _, _ => exact sumR_ok (ctx := cxC) (n := 1000) (D := CD 2) (pcx := asM 2) (cxC_okC hE) nm mixed (hE.cv 252 (CD 2) (show (252, CD 2) ∈ DsC from .tail _ (.tail _ (.tail _ (.tail _ (.head _)))))) (and_l cj_2) (and_r cj_2) (fun _ _ h => h) (and_l cs_2) (elC_ok hE 177)
  | 3, _, _ => exact sumR_ok (ctx := cxC) (n := 1000) (D := CD 3) (pcx := asM 3) (cxC_okC hE) nm mixed (hE.cv 253 (CD 3) (show (253, CD 3) ∈ DsC from .tail _ (.tail _ (.tail _ (.head _))))) (and_l cj_3) (and_r cj_3) (fun _ _ h => h) (and_l cs_3) (elC_ok hE 177)
  | 4, _, _ => exact sumR_ok (ctx := cxC) (n := 1000) (D := CD 4) (pcx := asM 4) (cxC_okC hE) nm mixed (hE.cv 254 (CD 4) (show (254, CD 4) ∈ DsC from .tail _ (.tail _ (.head _)))) (and_l cj_4) (and_r cj_4) (fun _ _ h => h) (and_l cs_4) (elC_ok hE 177)
  | 5, _, _ => exact sumR_ok (ctx := cxC) (n := 1000) (D := CD 5) (pcx := asM 5) (cxC_okC hE) nm mixed (hE.cv 255 (CD 5) (show (255, CD 5) ∈ DsC from .tail _ (.head _))) (and_l cj_5) (and_r cj_5) (fun _ _ h => h) (and_l cs_5) (elC_ok hE 177)
  | 6, _, _ => exact sumR_ok (ctx := cxC) (n := 1000) (D := CD 6) (pcx := asM 6) (cxC_okC hE) nm mixed (hE.cv 256 (CD 6) (show (256, CD 6) ∈ DsC from .head _)) (and_l cj_6) (and_r cj_6) (fun _ _ h => h) (and_l cs_6) (elC_ok hE 177)
theorem cvI_ok (hE : FokC E.fn) (n : Nat) (h1 : 1 ≤ n) (h6 : n ≤ 6) : SumOk Try.prog E 178 (cvI n) := by
  match n, h1, h6 with
  | 1, _, _ => exact sumR_ok (ctx := cxC) (n := 1000) (D := CD 1) (pcx := asM 1) (cxC_okC hE) nm mixed (hE.cv 251 (CD 1) (show (251, CD 1) ∈ DsC from .tail _ (.tail _ (.tail _ (.tail _ (.tail _ (.head _))))))) (and_l ck_1) (and_r ck_1) (fun _ _ h => h) (and_r cs_1) (elC_ok hE 178)
  | 2, _, _ => exact sumR_ok (ctx := cxC) (n := 1000) (D := CD 2) (pcx := asM 2) (cxC_okC hE) nm mixed (hE.cv 252 (CD 2) (show (252, CD 2) ∈ DsC from .tail _ (.tail _ (.tail _ (.tail _ (.head _)))))) (and_l ck_2) (and_r ck_2) (fun _ _ h => h) (and_r cs_2) (elC_ok hE 178)
  | 3, _, _ => exact sumR_ok (ctx := cxC) (n := 1000) (D := CD 3) (pcx := asM 3) (cxC_okC hE) nm mixed (hE.cv 253 (CD 3) (show (253, CD 3) ∈ DsC from .tail _ (.tail _ (.tail _ (.head _))))) (and_l ck_3) (and_r ck_3) (fun _ _ h => h) (and_r cs_3) (elC_ok hE 178)
  | 4, _, _ => exact sumR_ok (ctx := cxC) (n := 1000) (D := CD 4) (pcx := asM 4) (cxC_okC hE) nm mixed (hE.cv 254 (CD 4) (show (254, CD 4) ∈ DsC from .tail _ (.tail _ (.head _)))) (and_l ck_4) (and_r ck_4) (fun _ _ h => h) (and_r cs_4) (elC_ok hE 178)
  | 5, _, _ => exact sumR_ok (ctx := cxC) (n := 1000) (D := CD 5) (pcx := asM 5) (cxC_okC hE) nm mixed (hE.cv 255 (CD 5) (show (255, CD 5) ∈ DsC from .tail _ (.head _))) (and_l ck_5) (and_r ck_5) (fun _ _ h => h) (and_r cs_5) (elC_ok hE 178)
  | 6, _, _ => exact sumR_ok (ctx := cxC) (n := 1000) (D := CD 6) (pcx := asM 6) (cxC_okC hE) nm mixed (hE.cv 256 (CD 6) (show (256, CD 6) ∈ DsC from .head _)) (and_l ck_6) (and_r ck_6) (fun _ _ h => h) (and_r cs_6) (elC_ok hE 178)
def cxN : Ctx := ctxL ((177, disp shPtr2 cvS (elC 177)) :: (178, disp shArg2 cvI (elC 178)) :: (152, shiftX (call cxC Try.prog 1000 152)) :: (157, disp shPtr2 mxN (call cxB Try.prog 1000 157)) :: (69, disp shArg2 mxI (call cxB Try.prog 1000 69)) :: (157, disp shPtr2 mxS (call cxB Try.prog 1000 157)) :: (172, thick 172) :: (174, thick 174) :: (173, offS 173) :: (175, offS 175) :: orL (ctxL l3) Try.prog 1000 l5)
theorem cxN_okF (hE : FokC E.fn) : CtxOk Try.prog E cxN ∧ CtxPc E cxN :=
  ctxL_cons (ctxL_cons (cxM_okF hE.toFok4)
    (disp_ok (fun _ _ n hn => cvI_ok hE n (shArg2_ok hn).1 (shArg2_ok hn).2) (elC_ok hE 178)) (disp_pc (fun n => fun args m pc hp => sumQ_pc (elC_pc hE 178) args m pc hp) (elC_pc hE 178)))
    (disp_ok (fun _ _ n hn => cvS_ok hE n (shPtr2_ok hn).1 (shPtr2_ok hn).2) (elC_ok hE 177)) (disp_pc (fun n => fun args m pc hp => sumQ_pc (elC_pc hE 177) args m pc hp) (elC_pc hE 177))
end
end Go.Proofs.Ytamljpeicecbjaa.Leaf
set_option linter.unusedVariables false
set_option linter.unusedSimpArgs false
set_option maxRecDepth 100000
noncomputable section
namespace Go.Proofs.Ytamljpeicecbjaa.Leaf
open Go.Sx
def ptI (n : Nat) : List Tm := vars 6 (6 + 34 * n)
def okI (n : Nat) : PC := asM n ++ [(allZ (ptI n), false)]
def rpN : Rp := (false, [(false, [.int .i64])])
def paS (n : Nat) : List Pa := [.aggS n pgs t6, .agg f6, .sc i64, .sc i64, .sc k32]
def rpS : Rp := (true, [(true, f6), (false, [.int .i64])])
def pvI (n q : Nat) : Tm := .var (6 + 34 * n + q)
def avI (n : Nat) : Tm := .var (14 + 34 * n)
def mnI (n f : Nat) : Tm := .ite (.op (.flt .f32) (pvI n f) (avI n)) (pvI n f) (avI n)
def xvI (n f t : Nat) : Tm := .op (.fadd .f32) (pvI n t) (mnI n f)
def shI (n f t : Nat) : Nat → Nat → List Tm
  | 0, _ => [.il 0]
  | m + 1, q => (match Nat.beq q f with
    | true => .op (.fsub .f32) (pvI n f) (mnI n f)
    | false => match Nat.beq q t with
      | true => xvI n f t
      | false => pvI n q) :: shI n f t m (q + 1)
def z6I : Nat → List Tm
  | 0 => [.il 4]
  | m + 1 => .fl 0 :: z6I m
def asF (n f t : Nat) : PC := (.op .eqi (.var (12 + 34 * n)) (.il (.ofNat f)), true) :: (.op .eqi (.var (13 + 34 * n)) (.il (.ofNat t)), true) :: (okI n ++ [(.op (.fle .f32) (.fl 0) (avI n), true), (.op (.ffin .f32) (avI n) .nil, true)])
def asY (n f t : Nat) : PC := asF n f t ++ [(.op (.ffin .f32) (xvI n f t) .nil, true)]
def asN (n f t : Nat) : PC := asF n f t ++ [(.op (.ffin .f32) (xvI n f t) .nil, false)]
def oSY (n f t : Nat) : Out Res := callQ Try.prog cxC 1000 67 (paS n) (asY n f t)
def oSN (n f t : Nat) : Out Res := callQ Try.prog cxC 1000 67 (paS n) (asN n f t)
def oCk (n : Nat) : Out Res := callQ Try.prog cxC 1000 152 (paU n) (okI n)
def underL (n : Nat) : List Tm → Bool
  | [] => true
  | t :: r => match t.under n with | true => underL n r | false => false
theorem underL_mem {n : Nat} : ∀ {l : List Tm} {t : Tm}, underL n l = true → t ∈ l → t.under n = true
  | u :: r, t, h, ht => by
    simp only [underL] at h
    split at h
    · rename_i h1
      rcases List.mem_cons.1 ht with rfl | ht
      · exact h1
      · exact underL_mem h ht
    · cases h
/-- A contract whose results are given terms. -/
theorem sumT_okI {E : Env} {ctx : Ctx} {n f N : Nat} {ps : List Pa} {ass : PC} {rp : Rp} {us : List Tm} {els : Sum} (hC : ∀ E' : Env, E'.fn = E.fn → CtxOk Try.prog E' ctx ∧ CtxPc E' ctx)
    (hj : ((Nat.ble (bldP ps 0 0).j 1000 && undersF (bldP ps 0 0).n ass) && ((Nat.beq us.length N && Nat.beq N (sizeR rp.2)) && underL (bldP ps 0 0).n us)) = true)
    (hk : treeIs rp (callQ Try.prog ctx n f ps ass) (listT us) = true) (hels : SumOk Try.prog E f els) : SumOk Try.prog E f (sumQ ps ass (fun ts => mkR rp (us.map (Tm.subst ts))) els) := by
  simp only [Bool.and_eq_true] at hj
  obtain ⟨⟨j1, j2⟩, ⟨j3, j4⟩, j5⟩ := hj
  refine sumV_ok (n := n) (N := N) (T := listT us) (us := fun ts => us.map (Tm.subst ts)) (pcx := ass) hC nm mixed (by rw [j1, j2]; rfl) j4 (fun _ _ h => h) (fun E' ts hfn _ hn hE => ⟨?_, fun i u hu => ?_⟩) hk hels
  · rw [List.length_map]; exact Nat.eq_of_beq_eq_true j3
  · rw [List.getElem?_map] at hu
    cases hx : us[i]? with
    | none => rw [hx] at hu; cases hu
    | some v =>
      rw [hx] at hu
      simp only [Option.map_some, Option.some.injEq] at hu
      subst hu
      rw [listT_at hx]
      exact subst_den hE hfn (by rw [← hn]; exact underL_mem j5 (List.mem_of_getElem? hx))
end Go.Proofs.Ytamljpeicecbjaa.Leaf
