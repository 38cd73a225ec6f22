/- Mixtures of parts of which one is not finite: the code alone. No condition. -/
import Derived.Test.YtamljpeicecbjaaMc
import Derived.Test.YtamljpeicecbjaaSxShift
set_option linter.unusedVariables false
set_option linter.unusedSimpArgs false
set_option maxRecDepth 100000
noncomputable section
namespace Go.Proofs.Ytamljpeicecbjaa.Leaf
open Go.Sx
def nfA (n t : Nat) : PC := [(.op (.ffin .f32) (.var (6 + 34 * n + t)) .nil, false)]
def zerosL : Nat → List Tm
  | 0 => [.il 4]
  | m + 1 => .fl 0 :: zerosL m
def paN (n : Nat) : List Pa := [.ptS n pgs t6, .agg f6]
def oN (n t : Nat) : Out Res := callQ Try.prog cm2 1000 157 (paN n) (nfA n t)
theorem zeros_den : ∀ {m : Nat} {E E' : Env} {i : Nat} {u : Tm}, (zerosL m)[i]? = some u → u.den E = u.den E'
  | 0, E, E', i, u, h => by
    cases i with
    | zero => simp [zerosL] at h; subst h; rfl
    | succ i => simp [zerosL] at h
  | m + 1, E, E', i, u, h => by
    cases i with
    | zero => simp [zerosL] at h; subst h; rfl
    | succ i => exact zeros_den (m := m) (by simpa [zerosL] using h)
theorem zeros_len : ∀ m, (zerosL m).length = m + 1
  | 0 => rfl
  | m + 1 => by simp [zerosL, zeros_len m]
theorem nf_1_0 : treeIs rpL (oN 1 0) (listT (zerosL 33)) = true := by kernel_rfl
theorem ng_1_0 : (Nat.ble (bldP (paN 1) 0 0).j 1000 && undersF (bldP (paN 1) 0 0).n (nfA 1 0)) = true := by kernel_rfl
theorem nf_2_0 : treeIs rpL (oN 2 0) (listT (zerosL 33)) = true := by kernel_rfl
theorem ng_2_0 : (Nat.ble (bldP (paN 2) 0 0).j 1000 && undersF (bldP (paN 2) 0 0).n (nfA 2 0)) = true := by kernel_rfl
theorem nf_2_1 : treeIs rpL (oN 2 1) (listT (zerosL 33)) = true := by kernel_rfl
theorem ng_2_1 : (Nat.ble (bldP (paN 2) 0 0).j 1000 && undersF (bldP (paN 2) 0 0).n (nfA 2 1)) = true := by kernel_rfl
theorem nf_3_0 : treeIs rpL (oN 3 0) (listT (zerosL 33)) = true := by kernel_rfl
theorem ng_3_0 : (Nat.ble (bldP (paN 3) 0 0).j 1000 && undersF (bldP (paN 3) 0 0).n (nfA 3 0)) = true := by kernel_rfl
theorem nf_3_1 : treeIs rpL (oN 3 1) (listT (zerosL 33)) = true := by kernel_rfl
theorem ng_3_1 : (Nat.ble (bldP (paN 3) 0 0).j 1000 && undersF (bldP (paN 3) 0 0).n (nfA 3 1)) = true := by kernel_rfl
theorem nf_3_2 : treeIs rpL (oN 3 2) (listT (zerosL 33)) = true := by kernel_rfl
theorem ng_3_2 : (Nat.ble (bldP (paN 3) 0 0).j 1000 && undersF (bldP (paN 3) 0 0).n (nfA 3 2)) = true := by kernel_rfl
theorem nf_4_0 : treeIs rpL (oN 4 0) (listT (zerosL 33)) = true := by kernel_rfl
theorem ng_4_0 : (Nat.ble (bldP (paN 4) 0 0).j 1000 && undersF (bldP (paN 4) 0 0).n (nfA 4 0)) = true := by kernel_rfl
theorem nf_4_1 : treeIs rpL (oN 4 1) (listT (zerosL 33)) = true := by kernel_rfl
theorem ng_4_1 : (Nat.ble (bldP (paN 4) 0 0).j 1000 && undersF (bldP (paN 4) 0 0).n (nfA 4 1)) = true := by kernel_rfl
theorem nf_4_2 : treeIs rpL (oN 4 2) (listT (zerosL 33)) = true := by kernel_rfl
theorem ng_4_2 : (Nat.ble (bldP (paN 4) 0 0).j 1000 && undersF (bldP (paN 4) 0 0).n (nfA 4 2)) = true := by kernel_rfl
theorem nf_4_3 : treeIs rpL (oN 4 3) (listT (zerosL 33)) = true := by kernel_rfl
theorem ng_4_3 : (Nat.ble (bldP (paN 4) 0 0).j 1000 && undersF (bldP (paN 4) 0 0).n (nfA 4 3)) = true := by kernel_rfl
theorem nf_5_0 : treeIs rpL (oN 5 0) (listT (zerosL 33)) = true := by kernel_rfl
theorem ng_5_0 : (Nat.ble (bldP (paN 5) 0 0).j 1000 && undersF (bldP (paN 5) 0 0).n (nfA 5 0)) = true := by kernel_rfl
theorem nf_5_1 : treeIs rpL (oN 5 1) (listT (zerosL 33)) = true := by kernel_rfl
theorem ng_5_1 : (Nat.ble (bldP (paN 5) 0 0).j 1000 && undersF (bldP (paN 5) 0 0).n (nfA 5 1)) = true := by kernel_rfl
theorem nf_5_2 : treeIs rpL (oN 5 2) (listT (zerosL 33)) = true := by kernel_rfl
theorem ng_5_2 : (Nat.ble (bldP (paN 5) 0 0).j 1000 && undersF (bldP (paN 5) 0 0).n (nfA 5 2)) = true := by kernel_rfl
theorem nf_5_3 : treeIs rpL (oN 5 3) (listT (zerosL 33)) = true := by kernel_rfl
theorem ng_5_3 : (Nat.ble (bldP (paN 5) 0 0).j 1000 && undersF (bldP (paN 5) 0 0).n (nfA 5 3)) = true := by kernel_rfl
theorem nf_5_4 : treeIs rpL (oN 5 4) (listT (zerosL 33)) = true := by kernel_rfl
theorem ng_5_4 : (Nat.ble (bldP (paN 5) 0 0).j 1000 && undersF (bldP (paN 5) 0 0).n (nfA 5 4)) = true := by kernel_rfl
theorem nf_6_0 : treeIs rpL (oN 6 0) (listT (zerosL 33)) = true := by kernel_rfl
theorem ng_6_0 : (Nat.ble (bldP (paN 6) 0 0).j 1000 && undersF (bldP (paN 6) 0 0).n (nfA 6 0)) = true := by kernel_rfl
theorem nf_6_1 : treeIs rpL (oN 6 1) (listT (zerosL 33)) = true := by kernel_rfl
theorem ng_6_1 : (Nat.ble (bldP (paN 6) 0 0).j 1000 && undersF (bldP (paN 6) 0 0).n (nfA 6 1)) = true := by kernel_rfl
theorem nf_6_2 : treeIs rpL (oN 6 2) (listT (zerosL 33)) = true := by kernel_rfl
theorem ng_6_2 : (Nat.ble (bldP (paN 6) 0 0).j 1000 && undersF (bldP (paN 6) 0 0).n (nfA 6 2)) = true := by kernel_rfl
theorem nf_6_3 : treeIs rpL (oN 6 3) (listT (zerosL 33)) = true := by kernel_rfl
theorem ng_6_3 : (Nat.ble (bldP (paN 6) 0 0).j 1000 && undersF (bldP (paN 6) 0 0).n (nfA 6 3)) = true := by kernel_rfl
theorem nf_6_4 : treeIs rpL (oN 6 4) (listT (zerosL 33)) = true := by kernel_rfl
theorem ng_6_4 : (Nat.ble (bldP (paN 6) 0 0).j 1000 && undersF (bldP (paN 6) 0 0).n (nfA 6 4)) = true := by kernel_rfl
theorem nf_6_5 : treeIs rpL (oN 6 5) (listT (zerosL 33)) = true := by kernel_rfl
theorem ng_6_5 : (Nat.ble (bldP (paN 6) 0 0).j 1000 && undersF (bldP (paN 6) 0 0).n (nfA 6 5)) = true := by kernel_rfl
def nfC (n : Nat) : Nat → Sum
  | 0 => call cxB Try.prog 1000 157
  | t + 1 => sumQ (paN n) (nfA n t) (fun _ => mkR rpL (zerosL 33)) (nfC n t)
theorem nf_one {E : Env} (hE : Fok E.fn) {n t : Nat} {els : Sum} (hk : treeIs rpL (oN n t) (listT (zerosL 33)) = true) (hj : (Nat.ble (bldP (paN n) 0 0).j 1000 && undersF (bldP (paN n) 0 0).n (nfA n t)) = true) (h : SumOk Try.prog E 157 els) :
    SumOk Try.prog E 157 (sumQ (paN n) (nfA n t) (fun _ => mkR rpL (zerosL 33)) els) :=
  sumV_ok (ctx := cm2) (n := 1000) (N := 34) (T := listT (zerosL 33)) (us := fun _ => zerosL 33) (pcx := nfA n t) (cm2_ok' hE) nm mixed hj (by kernel_rfl) (fun _ _ h => h)
    (fun E' ts _ _ _ _ => ⟨zeros_len 33, fun i u hu => by rw [listT_at hu]; exact zeros_den hu⟩) hk h
theorem nfC_pc {E : Env} (hE : Fok E.fn) (n : Nat) : ∀ t, ∀ args m pc, PcOk E pc → Pcs E Res.pc (nfC n t args m pc)
  | 0 => call_pc (cxB_okF hE).2 1000 157
  | t + 1 => fun args m pc hp => sumQ_pc (nfC_pc hE n t) args m pc hp
theorem nfC_1 {E : Env} (hE : Fok E.fn) : SumOk Try.prog E 157 (nfC 1 1) := by
  have h0 : SumOk Try.prog E 157 (nfC 1 0) := call_ok (cxB_okF hE).1 (cxB_okF hE).2 nm mixed 1000 157
  have h1 : SumOk Try.prog E 157 (nfC 1 1) := nf_one hE nf_1_0 ng_1_0 h0
  exact h1
theorem nfC_2 {E : Env} (hE : Fok E.fn) : SumOk Try.prog E 157 (nfC 2 2) := by
  have h0 : SumOk Try.prog E 157 (nfC 2 0) := call_ok (cxB_okF hE).1 (cxB_okF hE).2 nm mixed 1000 157
  have h1 : SumOk Try.prog E 157 (nfC 2 1) := nf_one hE nf_2_0 ng_2_0 h0
  have h2 : SumOk Try.prog E 157 (nfC 2 2) := nf_one hE nf_2_1 ng_2_1 h1
  exact h2
theorem nfC_3 {E : Env} (hE : Fok E.fn) : SumOk Try.prog E 157 (nfC 3 3) := by
  have h0 : SumOk Try.prog E 157 (nfC 3 0) := call_ok (cxB_okF hE).1 (cxB_okF hE).2 nm mixed 1000 157
  have h1 : SumOk Try.prog E 157 (nfC 3 1) := nf_one hE nf_3_0 ng_3_0 h0
  have h2 : SumOk Try.prog E 157 (nfC 3 2) := nf_one hE nf_3_1 ng_3_1 h1
  have h3 : SumOk Try.prog E 157 (nfC 3 3) := nf_one hE nf_3_2 ng_3_2 h2
  exact h3
theorem nfC_4 {E : Env} (hE : Fok E.fn) : SumOk Try.prog E 157 (nfC 4 4) := by
  have h0 : SumOk Try.prog E 157 (nfC 4 0) := call_ok (cxB_okF hE).1 (cxB_okF hE).2 nm mixed 1000 157
  have h1 : SumOk Try.prog E 157 (nfC 4 1) := nf_one hE nf_4_0 ng_4_0 h0
  have h2 : SumOk Try.prog E 157 (nfC 4 2) := nf_one hE nf_4_1 ng_4_1 h1
  have h3 : SumOk Try.prog E 157 (nfC 4 3) := nf_one hE nf_4_2 ng_4_2 h2
  have h4 : SumOk Try.prog E 157 (nfC 4 4) := nf_one hE nf_4_3 ng_4_3 h3
  exact h4
theorem nfC_5 {E : Env} (hE : Fok E.fn) : SumOk Try.prog E 157 (nfC 5 5) := by
  have h0 : SumOk Try.prog E 157 (nfC 5 0) := call_ok (cxB_okF hE).1 (cxB_okF hE).2 nm mixed 1000 157
  have h1 : SumOk Try.prog E 157 (nfC 5 1) := nf_one hE nf_5_0 ng_5_0 h0
  have h2 : SumOk Try.prog E 157 (nfC 5 2) := nf_one hE nf_5_1 ng_5_1 h1
  have h3 : SumOk Try.prog E 157 (nfC 5 3) := nf_one hE nf_5_2 ng_5_2 h2
  have h4 : SumOk Try.prog E 157 (nfC 5 4) := nf_one hE nf_5_3 ng_5_3 h3
  have h5 : SumOk Try.prog E 157 (nfC 5 5) := nf_one hE nf_5_4 ng_5_4 h4
  exact h5
theorem nfC_6 {E : Env} (hE : Fok E.fn) : SumOk Try.prog E 157 (nfC 6 6) := by
  have h0 : SumOk Try.prog E 157 (nfC 6 0) := call_ok (cxB_okF hE).1 (cxB_okF hE).2 nm mixed 1000 157
  have h1 : SumOk Try.prog E 157 (nfC 6 1) := nf_one hE nf_6_0 ng_6_0 h0
  have h2 : SumOk Try.prog E 157 (nfC 6 2) := nf_one hE nf_6_1 ng_6_1 h1
  have h3 : SumOk Try.prog E 157 (nfC 6 3) := nf_one hE nf_6_2 ng_6_2 h2
  have h4 : SumOk Try.prog E 157 (nfC 6 4) := nf_one hE nf_6_3 ng_6_3 h3
  have h5 : SumOk Try.prog E 157 (nfC 6 5) := nf_one hE nf_6_4 ng_6_4 h4
  have h6 : SumOk Try.prog E 157 (nfC 6 6) := nf_one hE nf_6_5 ng_6_5 h5
  exact h6
def mxN (n : Nat) : Sum := sumR [.ptS n pgs t6, .agg f6] (asM n) rpL 34 (230 + n) (nfC n n)
theorem mxN_ok {E : Env} (hE : Fok4 E.fn) (n : Nat) (h1 : 1 ≤ n) (h6 : n ≤ 6) : SumOk Try.prog E 157 (mxN n) := by
  match n, h1, h6 with
  | 1, _, _ => exact sumR2_ok (ctx := cm2) (n := 1000) (D := DM 1) (T := DA 1) (pcx := []) (cm2_ok' hE.toFok) nm mixed (hE.defs4 231 (DM 1) (show (231, DM 1) ∈ Ds4 from .tail _ (.tail _ (.tail _ (.tail _ (.tail _ (.head _))))))) (and_l mj_1) (and_r mj_1) (fun _ _ _ _ h => by cases h) (fun E' h hp => DA_DM (by decide) (by decide) (pcM_ok (by rw [h]; exact hE.toFok) (by decide) (by decide) mu_1 hp)) m157_1 (nfC_1 hE.toFok)
  | 2, _, _ => exact sumR2_ok (ctx := cm2) (n := 1000) (D := DM 2) (T := DA 2) (pcx := []) (cm2_ok' hE.toFok) nm mixed (hE.defs4 232 (DM 2) (show (232, DM 2) ∈ Ds4 from .tail _ (.tail _ (.tail _ (.tail _ (.head _)))))) (and_l mj_2) (and_r mj_2) (fun _ _ _ _ h => by cases h) (fun E' h hp => DA_DM (by decide) (by decide) (pcM_ok (by rw [h]; exact hE.toFok) (by decide) (by decide) mu_2 hp)) m157_2 (nfC_2 hE.toFok)
  | 3, _, _ => exact sumR2_ok (ctx := cm2) (n := 1000) (D := DM 3) (T := DA 3) (pcx := []) (cm2_ok' hE.toFok) nm mixed (hE.defs4 233 (DM 3) (show (233, DM 3) ∈ Ds4 from .tail _ (.tail _ (.tail _ (.head _))))) (and_l mj_3) (and_r mj_3) (fun _ _ _ _ h => by cases h) (fun E' h hp => DA_DM (by decide) (by decide) (pcM_ok (by rw [h]; exact hE.toFok) (by decide) (by decide) mu_3 hp)) m157_3 (nfC_3 hE.toFok)
  | 4, _, _ => exact sumR2_ok (ctx := cm2) (n := 1000) (D := DM 4) (T := DA 4) (pcx := []) (cm2_ok' hE.toFok) nm mixed (hE.defs4 234 (DM 4) (show (234, DM 4) ∈ Ds4 from .tail _ (.tail _ (.head _)))) (and_l mj_4) (and_r mj_4) (fun _ _ _ _ h => by cases h) (fun E' h hp => DA_DM (by decide) (by decide) (pcM_ok (by rw [h]; exact hE.toFok) (by decide) (by decide) mu_4 hp)) m157_4 (nfC_4 hE.toFok)
  | 5, _, _ => exact sumR2_ok (ctx := cm2) (n := 1000) (D := DM 5) (T := DA 5) (pcx := []) (cm2_ok' hE.toFok) nm mixed (hE.defs4 235 (DM 5) (show (235, DM 5) ∈ Ds4 from .tail _ (.head _))) (and_l mj_5) (and_r mj_5) (fun _ _ _ _ h => by cases h) (fun E' h hp => DA_DM (by decide) (by decide) (pcM_ok (by rw [h]; exact hE.toFok) (by decide) (by decide) mu_5 hp)) m157_5 (nfC_5 hE.toFok)
  | 6, _, _ => exact sumR2_ok (ctx := cm2) (n := 1000) (D := DM 6) (T := DA 6) (pcx := []) (cm2_ok' hE.toFok) nm mixed (hE.defs4 236 (DM 6) (show (236, DM 6) ∈ Ds4 from .head _)) (and_l mj_6) (and_r mj_6) (fun _ _ _ _ h => by cases h) (fun E' h hp => DA_DM (by decide) (by decide) (pcM_ok (by rw [h]; exact hE.toFok) (by decide) (by decide) mu_6 hp)) m157_6 (nfC_6 hE.toFok)
theorem mxN_pc {E : Env} (hE : Fok4 E.fn) (n : Nat) : ∀ args m pc, PcOk E pc → Pcs E Res.pc (mxN n args m pc) := fun args m pc hp => sumQ_pc (nfC_pc hE.toFok n n) args m pc hp
def cxM : Ctx := ctxL ((152, shiftX (call cxC Try.prog 1000 152)) :: (157, disp shPtr2 mxN (call cxB Try.prog 1000 157)) :: (69, disp shArg2 mxI (call cxB Try.prog 1000 69)) :: (157, disp shPtr2 mxS (call cxB Try.prog 1000 157)) :: (172, thick 172) :: (174, thick 174) :: (173, offS 173) :: (175, offS 175) :: orL (ctxL l3) Try.prog 1000 l5)
theorem cxM_okF {E : Env} (hE : Fok4 E.fn) : CtxOk Try.prog E cxM ∧ CtxPc E cxM := by
  have hB := cxB_okF hE.toFok
  exact ctxL_cons (ctxL_cons (cxC_okF hE)
    (disp_ok (fun _ _ n hn => mxN_ok hE n (shPtr2_ok hn).1 (shPtr2_ok hn).2) (call_ok hB.1 hB.2 nm mixed 1000 157)) (disp_pc (fun n => mxN_pc hE n) (call_pc hB.2 1000 157)))
    (shiftX_ok (call_ok (cxC_okF hE).1 (cxC_okF hE).2 nm mixed 1000 152)) (shiftX_pc (call_pc (cxC_okF hE).2 1000 152))
end Go.Proofs.Ytamljpeicecbjaa.Leaf
