/- The contracts of drops and parts: what they reflect, how far they are off a target. No condition. -/
import Derived.Test.YtfdpcmijifdfeaaGreatGa
set_option linter.unusedVariables false
set_option linter.unusedSimpArgs false
set_option maxRecDepth 100000
noncomputable section
namespace Go.Proofs.YtfdpcmijifdfeaaGreat.Leaf
open Go.Sx
def dispA (fits : List SV → Mem → Option Nat) (S : Nat → Sum) (els : Sum) : Sum := fun args m pc => match fits args m.mem with
  | some n => S n args m pc
  | none => els args m pc
theorem dispA_ok {E : Env} {f : Nat} {fits : List SV → Mem → Option Nat} {S : Nat → Sum} {els : Sum} (h : ∀ args mem n, fits args mem = some n → SumOk Tryz.prog E f (S n)) (k : SumOk Tryz.prog E f els) : SumOk Tryz.prog E f (dispA fits S els) := by
  intro args m pc r hr
  unfold dispA at hr
  split at hr
  · rename_i n hn; exact h _ _ n hn args m pc r hr
  · exact k args m pc r hr
theorem dispA_pc {E : Env} {fits : List SV → Mem → Option Nat} {S : Nat → Sum} {els : Sum} (h : ∀ args mem n, fits args mem = some n → ∀ args m pc, PcOk E pc → Pcs E Res.pc (S n args m pc)) (k : ∀ args m pc, PcOk E pc → Pcs E Res.pc (els args m pc)) (args : List SV) (m : Mm) (pc : PC) (hp : PcOk E pc) : Pcs E Res.pc (dispA fits S els args m pc) := by
  unfold dispA
  split
  · rename_i n hn; exact h _ _ n hn args m pc hp
  · exact k args m pc hp
def litArg : List SV → Mem → Option Nat
  | [.sc _ (.il (.ofNat n)), .agg _], _ => match Nat.ble 1 n, Nat.ble n 6 with
    | true, true => some n
    | _, _ => none
  | _, _ => none
theorem litArg_ok {args : List SV} {mem : Mem} {k : Nat} (h : litArg args mem = some k) : 1 ≤ k ∧ k ≤ 6 := by
  unfold litArg at h
  split at h
  · split at h
    · rename_i h1 h2
      cases h
      exact ⟨Nat.le_of_ble_eq_true h1, Nat.le_of_ble_eq_true h2⟩
    · cases h
  · cases h
def shArg3 : List SV → Mem → Option Nat
  | [s, .agg _, .agg _], mem => shArg [s] mem
  | _, _ => none
theorem shArg3_ok {args : List SV} {mem : Mem} {k : Nat} (h : shArg3 args mem = some k) : 1 ≤ k ∧ k ≤ 6 := by
  unfold shArg3 at h
  split at h
  · exact shArg_ok h
  · cases h
def shPtr3 : List SV → Mem → Option Nat
  | [s, .agg _, .agg _], mem => shPtr [s] mem
  | _, _ => none
theorem shPtr3_ok {args : List SV} {mem : Mem} {k : Nat} (h : shPtr3 args mem = some k) : 1 ≤ k ∧ k ≤ 6 := by
  unfold shPtr3 at h
  split at h
  · exact shPtr_ok h
  · cases h
def shPtrG : List SV → Mem → Option Nat
  | [_, s, _], mem => shPtr [s] mem
  | _, _ => none
theorem shPtrG_ok {args : List SV} {mem : Mem} {k : Nat} (h : shPtrG args mem = some k) : 1 ≤ k ∧ k ≤ 6 := by
  unfold shPtrG at h
  split at h
  · exact shPtr_ok h
  · cases h
def elB (f : Nat) : Sum := call cxB Tryz.prog 1000 f
def adI (n : Nat) : Sum := sumRk [.sc i64, .agg d6] (asA n) rpB 1 (60 + n) 1 (elB 34)
def adS (n : Nat) : Sum := sumRk [.ptS n pgs t6, .agg d6] [] rpB 1 (60 + n) (6 + 34 * n) (elB 28)
def lC : List (Nat × Sum) := (106, disp shArg2 mxI (call cxB Tryz.prog 1000 106)) :: (99, disp shPtr2 mxS (call cxB Tryz.prog 1000 99)) :: (100, thick 100) :: (78, thick 78) :: (74, offS 74) :: (57, offS 57) :: orL (ctxL l3) Tryz.prog 1000 l5
def lA : List (Nat × Sum) := (34, dispA litArg adI (elB 34)) :: (28, dispA shPtr2 adS (elB 28)) :: (72, disp shPtr2 cvS (elC 72)) :: lC
def cxA : Ctx := ctxL lA
def elA (f : Nat) : Sum := call cxA Tryz.prog 1000 f
def ofG (n : Nat) : Sum := sumRp (paG n) (asG n) rpO 2 (260 + n) (piG n) (elA 51)
def pwI (n : Nat) : Sum := sumU (paW n) (asW n) rpC 17 (250 + n) (usW n) (elA 55)
def lW : List (Nat × Sum) := (55, disp shArg2 pwI (elA 55)) :: (51, disp shPtrG ofG (elA 51)) :: lA
def cxW : Ctx := ctxL lW
def elW (f : Nat) : Sum := call cxW Tryz.prog 1000 f
def oW (n : Nat) : Out Res := callQ Tryz.prog cxA 1000 55 (paW n) (asW n)
def oFI (n : Nat) : Out Res := callQ Tryz.prog cxW 1000 33 (paD n) (asW n)
def oFT (n : Nat) : Out Res := callQ Tryz.prog cxA 1000 27 (paE n) (asE n)
def ofI (n : Nat) : Sum := sumU (paD n) (asW n) rpO 2 (260 + n) (usO n) (elW 33)
def ofS (n : Nat) : Sum := sumU (paE n) (asE n) rpO 2 (260 + n) (usO n) (elW 27)
theorem ai_1 : treeIs rpB (raI 1) ((AD 1).subst (varsL 6 1)) = true := by kernel_rfl
theorem as_1 : treeIs rpB (raS 1) ((AD 1).subst (varsL 6 (6 + 34 * 1))) = true := by kernel_rfl
theorem aj_1 : ((Nat.ble (bldP [.sc i64, .agg d6] 0 0).j 1000 && undersF (bldP [.sc i64, .agg d6] 0 0).n (asA 1)) && (((AD 1).under 6 && Nat.beq 1 (sizeR rpB.2)) && Nat.beq (bldP [.sc i64, .agg d6] 0 0).n (1 + 6))) = true := by kernel_rfl
theorem ak_1 : ((Nat.ble (bldP [.ptS 1 pgs t6, .agg d6] 0 0).j 1000 && undersF (bldP [.ptS 1 pgs t6, .agg d6] 0 0).n []) && (((AD 1).under 6 && Nat.beq 1 (sizeR rpB.2)) && Nat.beq (bldP [.ptS 1 pgs t6, .agg d6] 0 0).n (6 + 34 * 1 + 6))) = true := by kernel_rfl
theorem cs_1 : treeIs rpC (oCS 1) (CD 1) = true := by kernel_rfl
theorem cj_1 : ((Nat.ble (bldP (paN 1) 0 0).j 1000 && undersF (bldP (paN 1) 0 0).n (asM 1)) && ((CD 1).under (bldP (paN 1) 0 0).n && Nat.beq 17 (sizeR rpC.2))) = true := by kernel_rfl
theorem og_1 : treeIs rpO (oG 1) ((OD 1).subst (selV (piG 1))) = true := by kernel_rfl
theorem oj_1 : ((Nat.ble (bldP (paG 1) 0 0).j 1000 && undersF (bldP (paG 1) 0 0).n (asG 1)) && (((OD 1).under (piG 1).length && Nat.beq 2 (sizeR rpO.2)) && allLt (bldP (paG 1) 0 0).n (piG 1))) = true := by kernel_rfl
theorem pw_1 : treeIs rpC (oW 1) ((CD 1).subst (usW 1)) = true := by kernel_rfl
theorem pj_1 : ((Nat.ble (bldP (paW 1) 0 0).j 1000 && undersF (bldP (paW 1) 0 0).n (asW 1)) && (((CD 1).under (usW 1).length && Nat.beq 17 (sizeR rpC.2)) && undersL (bldP (paW 1) 0 0).n (usW 1))) = true := by kernel_rfl
theorem fi_1 : treeIs rpO (oFI 1) ((OD 1).subst (usO 1)) = true := by kernel_rfl
theorem fj_1 : ((Nat.ble (bldP (paD 1) 0 0).j 1000 && undersF (bldP (paD 1) 0 0).n (asW 1)) && (((OD 1).under (usO 1).length && Nat.beq 2 (sizeR rpO.2)) && undersL (bldP (paD 1) 0 0).n (usO 1))) = true := by kernel_rfl
theorem ft_1 : treeIs rpO (oFT 1) ((OD 1).subst (usO 1)) = true := by kernel_rfl
theorem fk_1 : ((Nat.ble (bldP (paE 1) 0 0).j 1000 && undersF (bldP (paE 1) 0 0).n (asE 1)) && (((OD 1).under (usO 1).length && Nat.beq 2 (sizeR rpO.2)) && undersL (bldP (paE 1) 0 0).n (usO 1))) = true := by kernel_rfl
theorem ai_2 : treeIs rpB (raI 2) ((AD 2).subst (varsL 6 1)) = true := by kernel_rfl
theorem as_2 : treeIs rpB (raS 2) ((AD 2).subst (varsL 6 (6 + 34 * 2))) = true := by kernel_rfl
theorem aj_2 : ((Nat.ble (bldP [.sc i64, .agg d6] 0 0).j 1000 && undersF (bldP [.sc i64, .agg d6] 0 0).n (asA 2)) && (((AD 2).under 6 && Nat.beq 1 (sizeR rpB.2)) && Nat.beq (bldP [.sc i64, .agg d6] 0 0).n (1 + 6))) = true := by kernel_rfl
theorem ak_2 : ((Nat.ble (bldP [.ptS 2 pgs t6, .agg d6] 0 0).j 1000 && undersF (bldP [.ptS 2 pgs t6, .agg d6] 0 0).n []) && (((AD 2).under 6 && Nat.beq 1 (sizeR rpB.2)) && Nat.beq (bldP [.ptS 2 pgs t6, .agg d6] 0 0).n (6 + 34 * 2 + 6))) = true := by kernel_rfl
theorem cs_2 : treeIs rpC (oCS 2) (CD 2) = true := by kernel_rfl
theorem cj_2 : ((Nat.ble (bldP (paN 2) 0 0).j 1000 && undersF (bldP (paN 2) 0 0).n (asM 2)) && ((CD 2).under (bldP (paN 2) 0 0).n && Nat.beq 17 (sizeR rpC.2))) = true := by kernel_rfl
theorem og_2 : treeIs rpO (oG 2) ((OD 2).subst (selV (piG 2))) = true := by kernel_rfl
theorem oj_2 : ((Nat.ble (bldP (paG 2) 0 0).j 1000 && undersF (bldP (paG 2) 0 0).n (asG 2)) && (((OD 2).under (piG 2).length && Nat.beq 2 (sizeR rpO.2)) && allLt (bldP (paG 2) 0 0).n (piG 2))) = true := by kernel_rfl
theorem pw_2 : treeIs rpC (oW 2) ((CD 2).subst (usW 2)) = true := by kernel_rfl
theorem pj_2 : ((Nat.ble (bldP (paW 2) 0 0).j 1000 && undersF (bldP (paW 2) 0 0).n (asW 2)) && (((CD 2).under (usW 2).length && Nat.beq 17 (sizeR rpC.2)) && undersL (bldP (paW 2) 0 0).n (usW 2))) = true := by kernel_rfl
theorem fi_2 : treeIs rpO (oFI 2) ((OD 2).subst (usO 2)) = true := by kernel_rfl
theorem fj_2 : ((Nat.ble (bldP (paD 2) 0 0).j 1000 && undersF (bldP (paD 2) 0 0).n (asW 2)) && (((OD 2).under (usO 2).length && Nat.beq 2 (sizeR rpO.2)) && undersL (bldP (paD 2) 0 0).n (usO 2))) = true := by kernel_rfl
theorem ft_2 : treeIs rpO (oFT 2) ((OD 2).subst (usO 2)) = true := by kernel_rfl
theorem fk_2 : ((Nat.ble (bldP (paE 2) 0 0).j 1000 && undersF (bldP (paE 2) 0 0).n (asE 2)) && (((OD 2).under (usO 2).length && Nat.beq 2 (sizeR rpO.2)) && undersL (bldP (paE 2) 0 0).n (usO 2))) = true := by kernel_rfl
theorem ai_3 : treeIs rpB (raI 3) ((AD 3).subst (varsL 6 1)) = true := by kernel_rfl
theorem as_3 : treeIs rpB (raS 3) ((AD 3).subst (varsL 6 (6 + 34 * 3))) = true := by kernel_rfl
theorem aj_3 : ((Nat.ble (bldP [.sc i64, .agg d6] 0 0).j 1000 && undersF (bldP [.sc i64, .agg d6] 0 0).n (asA 3)) && (((AD 3).under 6 && Nat.beq 1 (sizeR rpB.2)) && Nat.beq (bldP [.sc i64, .agg d6] 0 0).n (1 + 6))) = true := by kernel_rfl
theorem ak_3 : ((Nat.ble (bldP [.ptS 3 pgs t6, .agg d6] 0 0).j 1000 && undersF (bldP [.ptS 3 pgs t6, .agg d6] 0 0).n []) && (((AD 3).under 6 && Nat.beq 1 (sizeR rpB.2)) && Nat.beq (bldP [.ptS 3 pgs t6, .agg d6] 0 0).n (6 + 34 * 3 + 6))) = true := by kernel_rfl
theorem cs_3 : treeIs rpC (oCS 3) (CD 3) = true := by kernel_rfl
theorem cj_3 : ((Nat.ble (bldP (paN 3) 0 0).j 1000 && undersF (bldP (paN 3) 0 0).n (asM 3)) && ((CD 3).under (bldP (paN 3) 0 0).n && Nat.beq 17 (sizeR rpC.2))) = true := by kernel_rfl
theorem og_3 : treeIs rpO (oG 3) ((OD 3).subst (selV (piG 3))) = true := by kernel_rfl
theorem oj_3 : ((Nat.ble (bldP (paG 3) 0 0).j 1000 && undersF (bldP (paG 3) 0 0).n (asG 3)) && (((OD 3).under (piG 3).length && Nat.beq 2 (sizeR rpO.2)) && allLt (bldP (paG 3) 0 0).n (piG 3))) = true := by kernel_rfl
theorem pw_3 : treeIs rpC (oW 3) ((CD 3).subst (usW 3)) = true := by kernel_rfl
theorem pj_3 : ((Nat.ble (bldP (paW 3) 0 0).j 1000 && undersF (bldP (paW 3) 0 0).n (asW 3)) && (((CD 3).under (usW 3).length && Nat.beq 17 (sizeR rpC.2)) && undersL (bldP (paW 3) 0 0).n (usW 3))) = true := by kernel_rfl
theorem fi_3 : treeIs rpO (oFI 3) ((OD 3).subst (usO 3)) = true := by kernel_rfl
theorem fj_3 : ((Nat.ble (bldP (paD 3) 0 0).j 1000 && undersF (bldP (paD 3) 0 0).n (asW 3)) && (((OD 3).under (usO 3).length && Nat.beq 2 (sizeR rpO.2)) && undersL (bldP (paD 3) 0 0).n (usO 3))) = true := by kernel_rfl
theorem ft_3 : treeIs rpO (oFT 3) ((OD 3).subst (usO 3)) = true := by kernel_rfl
theorem fk_3 : ((Nat.ble (bldP (paE 3) 0 0).j 1000 && undersF (bldP (paE 3) 0 0).n (asE 3)) && (((OD 3).under (usO 3).length && Nat.beq 2 (sizeR rpO.2)) && undersL (bldP (paE 3) 0 0).n (usO 3))) = true := by kernel_rfl
theorem ai_4 : treeIs rpB (raI 4) ((AD 4).subst (varsL 6 1)) = true := by kernel_rfl
theorem as_4 : treeIs rpB (raS 4) ((AD 4).subst (varsL 6 (6 + 34 * 4))) = true := by kernel_rfl
theorem aj_4 : ((Nat.ble (bldP [.sc i64, .agg d6] 0 0).j 1000 && undersF (bldP [.sc i64, .agg d6] 0 0).n (asA 4)) && (((AD 4).under 6 && Nat.beq 1 (sizeR rpB.2)) && Nat.beq (bldP [.sc i64, .agg d6] 0 0).n (1 + 6))) = true := by kernel_rfl
theorem ak_4 : ((Nat.ble (bldP [.ptS 4 pgs t6, .agg d6] 0 0).j 1000 && undersF (bldP [.ptS 4 pgs t6, .agg d6] 0 0).n []) && (((AD 4).under 6 && Nat.beq 1 (sizeR rpB.2)) && Nat.beq (bldP [.ptS 4 pgs t6, .agg d6] 0 0).n (6 + 34 * 4 + 6))) = true := by kernel_rfl
theorem cs_4 : treeIs rpC (oCS 4) (CD 4) = true := by kernel_rfl
theorem cj_4 : ((Nat.ble (bldP (paN 4) 0 0).j 1000 && undersF (bldP (paN 4) 0 0).n (asM 4)) && ((CD 4).under (bldP (paN 4) 0 0).n && Nat.beq 17 (sizeR rpC.2))) = true := by kernel_rfl
theorem og_4 : treeIs rpO (oG 4) ((OD 4).subst (selV (piG 4))) = true := by kernel_rfl
theorem oj_4 : ((Nat.ble (bldP (paG 4) 0 0).j 1000 && undersF (bldP (paG 4) 0 0).n (asG 4)) && (((OD 4).under (piG 4).length && Nat.beq 2 (sizeR rpO.2)) && allLt (bldP (paG 4) 0 0).n (piG 4))) = true := by kernel_rfl
theorem pw_4 : treeIs rpC (oW 4) ((CD 4).subst (usW 4)) = true := by kernel_rfl
theorem pj_4 : ((Nat.ble (bldP (paW 4) 0 0).j 1000 && undersF (bldP (paW 4) 0 0).n (asW 4)) && (((CD 4).under (usW 4).length && Nat.beq 17 (sizeR rpC.2)) && undersL (bldP (paW 4) 0 0).n (usW 4))) = true := by kernel_rfl
theorem fi_4 : treeIs rpO (oFI 4) ((OD 4).subst (usO 4)) = true := by kernel_rfl
theorem fj_4 : ((Nat.ble (bldP (paD 4) 0 0).j 1000 && undersF (bldP (paD 4) 0 0).n (asW 4)) && (((OD 4).under (usO 4).length && Nat.beq 2 (sizeR rpO.2)) && undersL (bldP (paD 4) 0 0).n (usO 4))) = true := by kernel_rfl
theorem ft_4 : treeIs rpO (oFT 4) ((OD 4).subst (usO 4)) = true := by kernel_rfl
theorem fk_4 : ((Nat.ble (bldP (paE 4) 0 0).j 1000 && undersF (bldP (paE 4) 0 0).n (asE 4)) && (((OD 4).under (usO 4).length && Nat.beq 2 (sizeR rpO.2)) && undersL (bldP (paE 4) 0 0).n (usO 4))) = true := by kernel_rfl
theorem ai_5 : treeIs rpB (raI 5) ((AD 5).subst (varsL 6 1)) = true := by kernel_rfl
theorem as_5 : treeIs rpB (raS 5) ((AD 5).subst (varsL 6 (6 + 34 * 5))) = true := by kernel_rfl
theorem aj_5 : ((Nat.ble (bldP [.sc i64, .agg d6] 0 0).j 1000 && undersF (bldP [.sc i64, .agg d6] 0 0).n (asA 5)) && (((AD 5).under 6 && Nat.beq 1 (sizeR rpB.2)) && Nat.beq (bldP [.sc i64, .agg d6] 0 0).n (1 + 6))) = true := by kernel_rfl
theorem ak_5 : ((Nat.ble (bldP [.ptS 5 pgs t6, .agg d6] 0 0).j 1000 && undersF (bldP [.ptS 5 pgs t6, .agg d6] 0 0).n []) && (((AD 5).under 6 && Nat.beq 1 (sizeR rpB.2)) && Nat.beq (bldP [.ptS 5 pgs t6, .agg d6] 0 0).n (6 + 34 * 5 + 6))) = true := by kernel_rfl
theorem cs_5 : treeIs rpC (oCS 5) (CD 5) = true := by kernel_rfl
theorem cj_5 : ((Nat.ble (bldP (paN 5) 0 0).j 1000 && undersF (bldP (paN 5) 0 0).n (asM 5)) && ((CD 5).under (bldP (paN 5) 0 0).n && Nat.beq 17 (sizeR rpC.2))) = true := by kernel_rfl
theorem og_5 : treeIs rpO (oG 5) ((OD 5).subst (selV (piG 5))) = true := by kernel_rfl
theorem oj_5 : ((Nat.ble (bldP (paG 5) 0 0).j 1000 && undersF (bldP (paG 5) 0 0).n (asG 5)) && (((OD 5).under (piG 5).length && Nat.beq 2 (sizeR rpO.2)) && allLt (bldP (paG 5) 0 0).n (piG 5))) = true := by kernel_rfl
theorem pw_5 : treeIs rpC (oW 5) ((CD 5).subst (usW 5)) = true := by kernel_rfl
theorem pj_5 : ((Nat.ble (bldP (paW 5) 0 0).j 1000 && undersF (bldP (paW 5) 0 0).n (asW 5)) && (((CD 5).under (usW 5).length && Nat.beq 17 (sizeR rpC.2)) && undersL (bldP (paW 5) 0 0).n (usW 5))) = true := by kernel_rfl
theorem fi_5 : treeIs rpO (oFI 5) ((OD 5).subst (usO 5)) = true := by kernel_rfl
theorem fj_5 : ((Nat.ble (bldP (paD 5) 0 0).j 1000 && undersF (bldP (paD 5) 0 0).n (asW 5)) && (((OD 5).under (usO 5).length && Nat.beq 2 (sizeR rpO.2)) && undersL (bldP (paD 5) 0 0).n (usO 5))) = true := by kernel_rfl
theorem ft_5 : treeIs rpO (oFT 5) ((OD 5).subst (usO 5)) = true := by kernel_rfl
theorem fk_5 : ((Nat.ble (bldP (paE 5) 0 0).j 1000 && undersF (bldP (paE 5) 0 0).n (asE 5)) && (((OD 5).under (usO 5).length && Nat.beq 2 (sizeR rpO.2)) && undersL (bldP (paE 5) 0 0).n (usO 5))) = true := by kernel_rfl
theorem ai_6 : treeIs rpB (raI 6) ((AD 6).subst (varsL 6 1)) = true := by kernel_rfl
theorem as_6 : treeIs rpB (raS 6) ((AD 6).subst (varsL 6 (6 + 34 * 6))) = true := by kernel_rfl
theorem aj_6 : ((Nat.ble (bldP [.sc i64, .agg d6] 0 0).j 1000 && undersF (bldP [.sc i64, .agg d6] 0 0).n (asA 6)) && (((AD 6).under 6 && Nat.beq 1 (sizeR rpB.2)) && Nat.beq (bldP [.sc i64, .agg d6] 0 0).n (1 + 6))) = true := by kernel_rfl
theorem ak_6 : ((Nat.ble (bldP [.ptS 6 pgs t6, .agg d6] 0 0).j 1000 && undersF (bldP [.ptS 6 pgs t6, .agg d6] 0 0).n []) && (((AD 6).under 6 && Nat.beq 1 (sizeR rpB.2)) && Nat.beq (bldP [.ptS 6 pgs t6, .agg d6] 0 0).n (6 + 34 * 6 + 6))) = true := by kernel_rfl
theorem cs_6 : treeIs rpC (oCS 6) (CD 6) = true := by kernel_rfl
theorem cj_6 : ((Nat.ble (bldP (paN 6) 0 0).j 1000 && undersF (bldP (paN 6) 0 0).n (asM 6)) && ((CD 6).under (bldP (paN 6) 0 0).n && Nat.beq 17 (sizeR rpC.2))) = true := by kernel_rfl
theorem og_6 : treeIs rpO (oG 6) ((OD 6).subst (selV (piG 6))) = true := by kernel_rfl
theorem oj_6 : ((Nat.ble (bldP (paG 6) 0 0).j 1000 && undersF (bldP (paG 6) 0 0).n (asG 6)) && (((OD 6).under (piG 6).length && Nat.beq 2 (sizeR rpO.2)) && allLt (bldP (paG 6) 0 0).n (piG 6))) = true := by kernel_rfl
theorem pw_6 : treeIs rpC (oW 6) ((CD 6).subst (usW 6)) = true := by kernel_rfl
theorem pj_6 : ((Nat.ble (bldP (paW 6) 0 0).j 1000 && undersF (bldP (paW 6) 0 0).n (asW 6)) && (((CD 6).under (usW 6).length && Nat.beq 17 (sizeR rpC.2)) && undersL (bldP (paW 6) 0 0).n (usW 6))) = true := by kernel_rfl
theorem fi_6 : treeIs rpO (oFI 6) ((OD 6).subst (usO 6)) = true := by kernel_rfl
theorem fj_6 : ((Nat.ble (bldP (paD 6) 0 0).j 1000 && undersF (bldP (paD 6) 0 0).n (asW 6)) && (((OD 6).under (usO 6).length && Nat.beq 2 (sizeR rpO.2)) && undersL (bldP (paD 6) 0 0).n (usO 6))) = true := by kernel_rfl
theorem ft_6 : treeIs rpO (oFT 6) ((OD 6).subst (usO 6)) = true := by kernel_rfl
theorem fk_6 : ((Nat.ble (bldP (paE 6) 0 0).j 1000 && undersF (bldP (paE 6) 0 0).n (asE 6)) && (((OD 6).under (usO 6).length && Nat.beq 2 (sizeR rpO.2)) && undersL (bldP (paE 6) 0 0).n (usO 6))) = true := by kernel_rfl
section
variable {E : Env}
theorem cxB_G (hE : FokG E.fn) : ∀ E' : Env, E'.fn = E.fn → CtxOk Tryz.prog E' cxB ∧ CtxPc E' cxB := fun E' h => cxB_okF (by rw [h]; exact hE.toFok)
theorem cxC_G (hE : FokG E.fn) : ∀ E' : Env, E'.fn = E.fn → CtxOk Tryz.prog E' cxC ∧ CtxPc E' cxC := fun E' h => cxC_okF (by rw [h]; exact hE.toFok4)
theorem elB_ok (hE : FokG E.fn) (f : Nat) : SumOk Tryz.prog E f (elB f) := call_ok (cxB_okF hE.toFok).1 (cxB_okF hE.toFok).2 nm mixed 1000 f
theorem elB_pc (hE : FokG E.fn) (f : Nat) : ∀ args m pc, PcOk E pc → Pcs E Res.pc (elB f args m pc) := call_pc (cxB_okF hE.toFok).2 1000 f
theorem elC_ok (hE : FokG E.fn) (f : Nat) : SumOk Tryz.prog E f (elC f) := call_ok (cxC_okF hE.toFok4).1 (cxC_okF hE.toFok4).2 nm mixed 1000 f
theorem elC_pc (hE : FokG E.fn) (f : Nat) : ∀ args m pc, PcOk E pc → Pcs E Res.pc (elC f args m pc) := call_pc (cxC_okF hE.toFok4).2 1000 f
theorem adI_ok (hE : FokG E.fn) (n : Nat) (h1 : 1 ≤ n) (h6 : n ≤ 6) : SumOk Tryz.prog E 34 (adI n) := by
  match n, h1, h6 with
  | 1, h1, h6 => exact sumRk_ok (ctx := cxB) (n := 1000) (w := 6) (D := AD 1) (pcx := asA 1) (cxB_G hE) nm mixed (hE.gd _ _ (memG_ad h1 h6)) aj_1 (fun _ _ h => h) ai_1 (elB_ok hE 34)
  | 2, h1, h6 => exact sumRk_ok (ctx := cxB) (n := 1000) (w := 6) (D := AD 2) (pcx := asA 2) (cxB_G hE) nm mixed (hE.gd _ _ (memG_ad h1 h6)) aj_2 (fun _ _ h => h) ai_2 (elB_ok hE 34)
  | 3, h1, h6 => exact sumRk_ok (ctx := cxB) (n := 1000) (w := 6) (D := AD 3) (pcx := asA 3) (cxB_G hE) nm mixed (hE.gd _ _ (memG_ad h1 h6)) aj_3 (fun _ _ h => h) ai_3 (elB_ok hE 34)
  | 4, h1, h6 => exact sumRk_ok (ctx := cxB) (n := 1000) (w := 6) (D := AD 4) (pcx := asA 4) (cxB_G hE) nm mixed (hE.gd _ _ (memG_ad h1 h6)) aj_4 (fun _ _ h => h) ai_4 (elB_ok hE 34)
  | 5, h1, h6 => exact sumRk_ok (ctx := cxB) (n := 1000) (w := 6) (D := AD 5) (pcx := asA 5) (cxB_G hE) nm mixed (hE.gd _ _ (memG_ad h1 h6)) aj_5 (fun _ _ h => h) ai_5 (elB_ok hE 34)
  | 6, h1, h6 => exact sumRk_ok (ctx := cxB) (n := 1000) (w := 6) (D := AD 6) (pcx := asA 6) (cxB_G hE) nm mixed (hE.gd _ _ (memG_ad h1 h6)) aj_6 (fun _ _ h => h) ai_6 (elB_ok hE 34)
theorem adS_ok (hE : FokG E.fn) (n : Nat) (h1 : 1 ≤ n) (h6 : n ≤ 6) : SumOk Tryz.prog E 28 (adS n) := by
  match n, h1, h6 with
  | 1, h1, h6 => exact sumRk_ok (ctx := cxB) (n := 1000) (w := 6) (D := AD 1) (pcx := []) (cxB_G hE) nm mixed (hE.gd _ _ (memG_ad h1 h6)) ak_1 (fun _ _ h => h) as_1 (elB_ok hE 28)
  | 2, h1, h6 => exact sumRk_ok (ctx := cxB) (n := 1000) (w := 6) (D := AD 2) (pcx := []) (cxB_G hE) nm mixed (hE.gd _ _ (memG_ad h1 h6)) ak_2 (fun _ _ h => h) as_2 (elB_ok hE 28)
  | 3, h1, h6 => exact sumRk_ok (ctx := cxB) (n := 1000) (w := 6) (D := AD 3) (pcx := []) (cxB_G hE) nm mixed (hE.gd _ _ (memG_ad h1 h6)) ak_3 (fun _ _ h => h) as_3 (elB_ok hE 28)
  | 4, h1, h6 => exact sumRk_ok (ctx := cxB) (n := 1000) (w := 6) (D := AD 4) (pcx := []) (cxB_G hE) nm mixed (hE.gd _ _ (memG_ad h1 h6)) ak_4 (fun _ _ h => h) as_4 (elB_ok hE 28)
  | 5, h1, h6 => exact sumRk_ok (ctx := cxB) (n := 1000) (w := 6) (D := AD 5) (pcx := []) (cxB_G hE) nm mixed (hE.gd _ _ (memG_ad h1 h6)) ak_5 (fun _ _ h => h) as_5 (elB_ok hE 28)
  | 6, h1, h6 => exact sumRk_ok (ctx := cxB) (n := 1000) (w := 6) (D := AD 6) (pcx := []) (cxB_G hE) nm mixed (hE.gd _ _ (memG_ad h1 h6)) ak_6 (fun _ _ h => h) as_6 (elB_ok hE 28)
theorem cvS_ok (hE : FokG E.fn) (n : Nat) (h1 : 1 ≤ n) (h6 : n ≤ 6) : SumOk Tryz.prog E 72 (cvS n) := by
  match n, h1, h6 with
  | 1, h1, h6 => exact sumR_ok (ctx := cxC) (n := 1000) (D := CD 1) (pcx := asM 1) (cxC_G hE) nm mixed (hE.gd _ _ (memG_cd h1 h6)) (and_l cj_1) (and_r cj_1) (fun _ _ h => h) cs_1 (elC_ok hE 72)
  | 2, h1, h6 => exact sumR_ok (ctx := cxC) (n := 1000) (D := CD 2) (pcx := asM 2) (cxC_G hE) nm mixed (hE.gd _ _ (memG_cd h1 h6)) (and_l cj_2) (and_r cj_2) (fun _ _ h => h) cs_2 (elC_ok hE 72)
  | 3, h1, h6 => exact sumR_ok (ctx := cxC) (n := 1000) (D := CD 3) (pcx := asM 3) (cxC_G hE) nm mixed (hE.gd _ _ (memG_cd h1 h6)) (and_l cj_3) (and_r cj_3) (fun _ _ h => h) cs_3 (elC_ok hE 72)
  | 4, h1, h6 => exact sumR_ok (ctx := cxC) (n := 1000) (D := CD 4) (pcx := asM 4) (cxC_G hE) nm mixed (hE.gd _ _ (memG_cd h1 h6)) (and_l cj_4) (and_r cj_4) (fun _ _ h => h) cs_4 (elC_ok hE 72)
  | 5, h1, h6 => exact sumR_ok (ctx := cxC) (n := 1000) (D := CD 5) (pcx := asM 5) (cxC_G hE) nm mixed (hE.gd _ _ (memG_cd h1 h6)) (and_l cj_5) (and_r cj_5) (fun _ _ h => h) cs_5 (elC_ok hE 72)
  | 6, h1, h6 => exact sumR_ok (ctx := cxC) (n := 1000) (D := CD 6) (pcx := asM 6) (cxC_G hE) nm mixed (hE.gd _ _ (memG_cd h1 h6)) (and_l cj_6) (and_r cj_6) (fun _ _ h => h) cs_6 (elC_ok hE 72)
theorem lV_ok (hE : FokG E.fn) : CtxOk Tryz.prog E (ctxL ((72, disp shPtr2 cvS (elC 72)) :: lC)) ∧ CtxPc E (ctxL ((72, disp shPtr2 cvS (elC 72)) :: lC)) :=
  ctxL_cons (cxC_okF hE.toFok4) (disp_ok (fun _ _ n hn => cvS_ok hE n (shPtr2_ok hn).1 (shPtr2_ok hn).2) (elC_ok hE 72)) (disp_pc (fun n args m pc hp => sumQ_pc (elC_pc hE 72) args m pc hp) (elC_pc hE 72))
theorem cxV_G (hE : FokG E.fn) : ∀ E' : Env, E'.fn = E.fn → CtxOk Tryz.prog E' cxV ∧ CtxPc E' cxV := fun E' h => lV_ok (E := E') (by rw [h]; exact hE)
theorem cxA_okF (hE : FokG E.fn) : CtxOk Tryz.prog E cxA ∧ CtxPc E cxA :=
  ctxL_cons (ctxL_cons (lV_ok hE)
    (dispA_ok (fun _ _ n hn => adS_ok hE n (shPtr2_ok hn).1 (shPtr2_ok hn).2) (elB_ok hE 28)) (dispA_pc (fun _ _ n _ args m pc hp => sumQ_pc (elB_pc hE 28) args m pc hp) (elB_pc hE 28)))
    (dispA_ok (fun _ _ n hn => adI_ok hE n (litArg_ok hn).1 (litArg_ok hn).2) (elB_ok hE 34)) (dispA_pc (fun _ _ n _ args m pc hp => sumQ_pc (elB_pc hE 34) args m pc hp) (elB_pc hE 34))
theorem cxA_G (hE : FokG E.fn) : ∀ E' : Env, E'.fn = E.fn → CtxOk Tryz.prog E' cxA ∧ CtxPc E' cxA := fun E' h => cxA_okF (by rw [h]; exact hE)
theorem elA_ok (hE : FokG E.fn) (f : Nat) : SumOk Tryz.prog E f (elA f) := call_ok (cxA_okF hE).1 (cxA_okF hE).2 nm mixed 1000 f
theorem elA_pc (hE : FokG E.fn) (f : Nat) : ∀ args m pc, PcOk E pc → Pcs E Res.pc (elA f args m pc) := call_pc (cxA_okF hE).2 1000 f
theorem ofG_ok (hE : FokG E.fn) (n : Nat) (h1 : 1 ≤ n) (h6 : n ≤ 6) : SumOk Tryz.prog E 51 (ofG n) := by
  match n, h1, h6 with
  | 1, h1, h6 => exact sumRp_ok (ctx := cxV) (n := 1000) (D := OD 1) (pcx := asG 1) (cxV_G hE) nm mixed (hE.gd _ _ (memG_od h1 h6)) oj_1 (fun _ _ h => h) og_1 (elA_ok hE 51)
  | 2, h1, h6 => exact sumRp_ok (ctx := cxV) (n := 1000) (D := OD 2) (pcx := asG 2) (cxV_G hE) nm mixed (hE.gd _ _ (memG_od h1 h6)) oj_2 (fun _ _ h => h) og_2 (elA_ok hE 51)
  | 3, h1, h6 => exact sumRp_ok (ctx := cxV) (n := 1000) (D := OD 3) (pcx := asG 3) (cxV_G hE) nm mixed (hE.gd _ _ (memG_od h1 h6)) oj_3 (fun _ _ h => h) og_3 (elA_ok hE 51)
  | 4, h1, h6 => exact sumRp_ok (ctx := cxV) (n := 1000) (D := OD 4) (pcx := asG 4) (cxV_G hE) nm mixed (hE.gd _ _ (memG_od h1 h6)) oj_4 (fun _ _ h => h) og_4 (elA_ok hE 51)
  | 5, h1, h6 => exact sumRp_ok (ctx := cxV) (n := 1000) (D := OD 5) (pcx := asG 5) (cxV_G hE) nm mixed (hE.gd _ _ (memG_od h1 h6)) oj_5 (fun _ _ h => h) og_5 (elA_ok hE 51)
  | 6, h1, h6 => exact sumRp_ok (ctx := cxV) (n := 1000) (D := OD 6) (pcx := asG 6) (cxV_G hE) nm mixed (hE.gd _ _ (memG_od h1 h6)) oj_6 (fun _ _ h => h) og_6 (elA_ok hE 51)
theorem pwI_ok (hE : FokG E.fn) (n : Nat) (h1 : 1 ≤ n) (h6 : n ≤ 6) : SumOk Tryz.prog E 55 (pwI n) := by
  match n, h1, h6 with
  | 1, h1, h6 => exact sumU_ok (ctx := cxA) (n := 1000) (D := CD 1) (pcx := asW 1) (cxA_G hE) nm mixed (hE.gd _ _ (memG_cd h1 h6)) pj_1 (fun _ _ h => h) pw_1 (elA_ok hE 55)
  | 2, h1, h6 => exact sumU_ok (ctx := cxA) (n := 1000) (D := CD 2) (pcx := asW 2) (cxA_G hE) nm mixed (hE.gd _ _ (memG_cd h1 h6)) pj_2 (fun _ _ h => h) pw_2 (elA_ok hE 55)
  | 3, h1, h6 => exact sumU_ok (ctx := cxA) (n := 1000) (D := CD 3) (pcx := asW 3) (cxA_G hE) nm mixed (hE.gd _ _ (memG_cd h1 h6)) pj_3 (fun _ _ h => h) pw_3 (elA_ok hE 55)
  | 4, h1, h6 => exact sumU_ok (ctx := cxA) (n := 1000) (D := CD 4) (pcx := asW 4) (cxA_G hE) nm mixed (hE.gd _ _ (memG_cd h1 h6)) pj_4 (fun _ _ h => h) pw_4 (elA_ok hE 55)
  | 5, h1, h6 => exact sumU_ok (ctx := cxA) (n := 1000) (D := CD 5) (pcx := asW 5) (cxA_G hE) nm mixed (hE.gd _ _ (memG_cd h1 h6)) pj_5 (fun _ _ h => h) pw_5 (elA_ok hE 55)
  | 6, h1, h6 => exact sumU_ok (ctx := cxA) (n := 1000) (D := CD 6) (pcx := asW 6) (cxA_G hE) nm mixed (hE.gd _ _ (memG_cd h1 h6)) pj_6 (fun _ _ h => h) pw_6 (elA_ok hE 55)
theorem cxW_okF (hE : FokG E.fn) : CtxOk Tryz.prog E cxW ∧ CtxPc E cxW :=
  ctxL_cons (ctxL_cons (cxA_okF hE)
    (disp_ok (fun _ _ n hn => ofG_ok hE n (shPtrG_ok hn).1 (shPtrG_ok hn).2) (elA_ok hE 51)) (disp_pc (fun n args m pc hp => sumQ_pc (elA_pc hE 51) args m pc hp) (elA_pc hE 51)))
    (disp_ok (fun _ _ n hn => pwI_ok hE n (shArg2_ok hn).1 (shArg2_ok hn).2) (elA_ok hE 55)) (disp_pc (fun n args m pc hp => sumQ_pc (elA_pc hE 55) args m pc hp) (elA_pc hE 55))
theorem cxW_G (hE : FokG E.fn) : ∀ E' : Env, E'.fn = E.fn → CtxOk Tryz.prog E' cxW ∧ CtxPc E' cxW := fun E' h => cxW_okF (by rw [h]; exact hE)
theorem elW_ok (hE : FokG E.fn) (f : Nat) : SumOk Tryz.prog E f (elW f) := call_ok (cxW_okF hE).1 (cxW_okF hE).2 nm mixed 1000 f
theorem elW_pc (hE : FokG E.fn) (f : Nat) : ∀ args m pc, PcOk E pc → Pcs E Res.pc (elW f args m pc) := call_pc (cxW_okF hE).2 1000 f
theorem ofI_ok (hE : FokG E.fn) (n : Nat) (h1 : 1 ≤ n) (h6 : n ≤ 6) : SumOk Tryz.prog E 33 (ofI n) := by
  match n, h1, h6 with
  | 1, h1, h6 => exact sumU_ok (ctx := cxW) (n := 1000) (D := OD 1) (pcx := asW 1) (cxW_G hE) nm mixed (hE.gd _ _ (memG_od h1 h6)) fj_1 (fun _ _ h => h) fi_1 (elW_ok hE 33)
  | 2, h1, h6 => exact sumU_ok (ctx := cxW) (n := 1000) (D := OD 2) (pcx := asW 2) (cxW_G hE) nm mixed (hE.gd _ _ (memG_od h1 h6)) fj_2 (fun _ _ h => h) fi_2 (elW_ok hE 33)
  | 3, h1, h6 => exact sumU_ok (ctx := cxW) (n := 1000) (D := OD 3) (pcx := asW 3) (cxW_G hE) nm mixed (hE.gd _ _ (memG_od h1 h6)) fj_3 (fun _ _ h => h) fi_3 (elW_ok hE 33)
  | 4, h1, h6 => exact sumU_ok (ctx := cxW) (n := 1000) (D := OD 4) (pcx := asW 4) (cxW_G hE) nm mixed (hE.gd _ _ (memG_od h1 h6)) fj_4 (fun _ _ h => h) fi_4 (elW_ok hE 33)
  | 5, h1, h6 => exact sumU_ok (ctx := cxW) (n := 1000) (D := OD 5) (pcx := asW 5) (cxW_G hE) nm mixed (hE.gd _ _ (memG_od h1 h6)) fj_5 (fun _ _ h => h) fi_5 (elW_ok hE 33)
  | 6, h1, h6 => exact sumU_ok (ctx := cxW) (n := 1000) (D := OD 6) (pcx := asW 6) (cxW_G hE) nm mixed (hE.gd _ _ (memG_od h1 h6)) fj_6 (fun _ _ h => h) fi_6 (elW_ok hE 33)
theorem ofS_ok (hE : FokG E.fn) (n : Nat) (h1 : 1 ≤ n) (h6 : n ≤ 6) : SumOk Tryz.prog E 27 (ofS n) := by
  match n, h1, h6 with
  | 1, h1, h6 => exact sumU_ok (ctx := cxA) (n := 1000) (D := OD 1) (pcx := asE 1) (cxA_G hE) nm mixed (hE.gd _ _ (memG_od h1 h6)) fk_1 (fun _ _ h => h) ft_1 (elW_ok hE 27)
  | 2, h1, h6 => exact sumU_ok (ctx := cxA) (n := 1000) (D := OD 2) (pcx := asE 2) (cxA_G hE) nm mixed (hE.gd _ _ (memG_od h1 h6)) fk_2 (fun _ _ h => h) ft_2 (elW_ok hE 27)
  | 3, h1, h6 => exact sumU_ok (ctx := cxA) (n := 1000) (D := OD 3) (pcx := asE 3) (cxA_G hE) nm mixed (hE.gd _ _ (memG_od h1 h6)) fk_3 (fun _ _ h => h) ft_3 (elW_ok hE 27)
  | 4, h1, h6 => exact sumU_ok (ctx := cxA) (n := 1000) (D := OD 4) (pcx := asE 4) (cxA_G hE) nm mixed (hE.gd _ _ (memG_od h1 h6)) fk_4 (fun _ _ h => h) ft_4 (elW_ok hE 27)
  | 5, h1, h6 => exact sumU_ok (ctx := cxA) (n := 1000) (D := OD 5) (pcx := asE 5) (cxA_G hE) nm mixed (hE.gd _ _ (memG_od h1 h6)) fk_5 (fun _ _ h => h) ft_5 (elW_ok hE 27)
  | 6, h1, h6 => exact sumU_ok (ctx := cxA) (n := 1000) (D := OD 6) (pcx := asE 6) (cxA_G hE) nm mixed (hE.gd _ _ (memG_od h1 h6)) fk_6 (fun _ _ h => h) ft_6 (elW_ok hE 27)
/-! Drops that are rows, or valid: what is known of them is told first -/
def i16s : List SV → Option (List Tm)
  | [] => some []
  | .sc _ t :: r => match i16s r with
    | some l => some (t :: l)
    | none => none
  | _ => none
def dropsA : List SV → Option (List Tm)
  | [_, .agg cs, _] => i16s cs
  | _ => none
/-! Drops of known numbers may be valid by these -/
def vaJ (n : Nat) : Nat → PC
  | 0 => []
  | m + 1 => vaJ n m ++ ((.op .lei (.il 0) (.var m), true) :: (.op .lei (.var m) (.il 1000), true) :: (match Nat.blt m n with
    | true => []
    | false => [(.op .eqi (.var m) (.il 0), true)]))
def vaN (n : Nat) : PC := vaJ n 6 ++ [(.op .lti (.il 0) (totD 0 6), true)]
theorem vaJ_get {n : Nat} : ∀ {m : Nat}, PcOk E (vaJ n m) → ∀ i, i < m → (0 ≤ (E.v i).toI ∧ (E.v i).toI ≤ 1000) ∧ (n ≤ i → (E.v i).toI = 0)
  | m + 1, h, i, hi => by
    have h1 : PcOk E (vaJ n m) := fun p hp => h p (List.mem_append.2 (.inl hp))
    rcases Nat.lt_or_ge i m with hlt | hge
    · exact vaJ_get h1 i hlt
    · have : i = m := by omega
      subst this
      have k1 : 0 ≤ (E.v i).toI := of_decide_eq_true (h _ (List.mem_append.2 (.inr (.head _))))
      have k2 : (E.v i).toI ≤ 1000 := of_decide_eq_true (h _ (List.mem_append.2 (.inr (.tail _ (.head _)))))
      refine ⟨⟨k1, k2⟩, fun hn => ?_⟩
      have hb : Nat.blt i n = false := by
        cases hb : Nat.blt i n with
        | false => rfl
        | true => exact absurd (show i < n by simpa [Nat.blt_eq] using hb) (by omega)
      exact of_decide_eq_true (h (.op .eqi (.var i) (.il 0), true) (List.mem_append.2 (.inr (.tail _ (.tail _ (by rw [hb]; exact .head _))))))
theorem vaN_ad {n : Nat} (h : PcOk E (vaN n)) : ((adT n 6 0).den E).toB = true := by
  have g := vaJ_get (E := E) (n := n) (m := 6) fun p hp => h p (List.mem_append.2 (.inl hp))
  have h0 : 0 < ((totD 0 6).den E).toI := of_decide_eq_true (h _ (List.mem_append.2 (.inr (.head _))))
  have hw : ∀ i, i < 6 → IntKind.i64.wrap (E.v i).toI = (E.v i).toI := fun i hi => by
    have := (g i hi).1
    exact wg64 (by omega) (by omega)
  refine adT_of (fun i _ hi => ?_) ?_
  · rw [hw i (by omega)]
    exact g i (by omega)
  · rw [totW_eq (n := n) (q := 0) (E' := E) hw (fun i _ => by rw [Nat.zero_add]) 6 (Nat.le_refl _)]
    exact h0
def allKnown (pc : PC) : PC → Bool
  | [] => true
  | (t, v) :: r => match decB pc t with
    | some b => match beqb b v with | true => allKnown pc r | false => false
    | none => false
theorem allKnown_ok {pc : PC} (hp : PcOk E pc) : ∀ {l : PC}, allKnown pc l = true → PcOk E l
  | [], _ => fun p h => by cases h
  | (t, v) :: r, h => by
    simp only [allKnown] at h
    split at h
    · rename_i b hb
      split at h
      · rename_i hv
        refine PcOk.cons (allKnown_ok hp h) ?_
        rw [← beqb_eq hv]
        exact decB_ok hp t hb
      · cases h
    · cases h
def vaF (n : Nat) (cs : List Tm) (pc : PC) : PC := match Nat.beq cs.length 6, Go.Sx.look pc (adC n cs) with
  | true, none => match allKnown pc (substF cs (vaN n)) with
    | true => (adC n cs, true) :: pc
    | false => pc
  | _, _ => pc
theorem vaN_under : ∀ {n : Nat}, 1 ≤ n → n ≤ 6 → undersF 6 (vaN n) = true
  | 1, _, _ | 2, _, _ | 3, _, _ | 4, _, _ | 5, _, _ | 6, _, _ => by kernel_rfl
theorem vaF_ok (hE : FokG E.fn) {n : Nat} (h1 : 1 ≤ n) (h6 : n ≤ 6) {cs : List Tm} {pc : PC} (hp : PcOk E pc) : PcOk E (vaF n cs pc) := by
  unfold vaF
  split
  · rename_i hl _
    split
    · rename_i hk
      have hl := Nat.eq_of_beq_eq_true hl
      have hE' : ∀ (i : Nat) (t : Tm), cs[i]? = some t → ((fun i => (cs[i]?.map (Tm.den E)).getD .nil) i : Sc) = t.den E := fun i t hi => by simp [hi]
      have h := vaN_ad (substF_ok (E' := ⟨fun i => (cs[i]?.map (Tm.den E)).getD .nil, E.fn⟩) hE' rfl (by rw [hl]; exact vaN_under h1 h6) (allKnown_ok hp hk))
      refine hp.cons ?_
      have e : (adC n cs).den E = (adT n 6 0).den ⟨fun i => ((listT cs).den E).at_ i, E.fn⟩ := congrArg (fun c => c.at_ 0) (hE.gd _ _ (memG_ad h1 h6) ((listT cs).den E))
      rw [e]
      rw [adT_v (E' := ⟨fun i => (cs[i]?.map (Tm.den E)).getD .nil, E.fn⟩) h1 h6 fun i hi => by
        have ht : cs[i]? = some cs[i] := List.getElem?_eq_getElem (by omega)
        show ((listT cs).den E).at_ i = _
        simp only [ht, Option.map_some, Option.getD_some]
        exact listT_at ht]
      exact h
    · exact hp
  · exact hp
/-- ask: is it asked whether the drops are valid? -/
def drX (ask : Bool) (n : Nat) (S : Sum) : Sum := fun args m pc => match dropsA args with
  | none => S args m pc
  | some cs => match ask with
    | true => fork (vaF n cs (rowF n cs pc)) (adC n cs) (fun pc => S args m (drF n cs pc)) (fun pc => S args m pc)
    | false => S args m (drF n cs (rowF n cs pc))
theorem drX_ok (hE : FokG E.fn) {f : Nat} {ask : Bool} {n : Nat} (h1 : 1 ≤ n) (h6 : n ≤ 6) {S : Sum} (hS : SumOk Tryz.prog E f S) : SumOk Tryz.prog E f (drX ask n S) := by
  intro args m pc r hr β w vals g1 g2 g3 g4 hp
  unfold drX at hr
  split at hr
  · exact hS args m pc r hr β w vals g1 g2 g3 g4 hp
  · split at hr
    · obtain ⟨pc', hp', h⟩ := fork_sel (vaF_ok hE h1 h6 (rowF_ok hE h1 h6 hp)) hr
      rcases h with ⟨_, h⟩ | ⟨_, h⟩
      · exact hS args m _ r h β w vals g1 g2 g3 g4 (drF_ok hE h1 h6 hp')
      · exact hS args m _ r h β w vals g1 g2 g3 g4 hp'
    · exact hS args m _ r hr β w vals g1 g2 g3 g4 (drF_ok hE h1 h6 (rowF_ok hE h1 h6 hp))
theorem drX_pc (hE : FokG E.fn) {ask : Bool} {n : Nat} (h1 : 1 ≤ n) (h6 : n ≤ 6) {S : Sum} (hS : ∀ args m pc, PcOk E pc → Pcs E Res.pc (S args m pc)) (args : List SV) (m : Mm) (pc : PC) (hp : PcOk E pc) : Pcs E Res.pc (drX ask n S args m pc) := by
  unfold drX
  split
  · exact hS args m pc hp
  · split
    · exact Pcs.fork (vaF_ok hE h1 h6 (rowF_ok hE h1 h6 hp)) (fun pc hp' => hS args m _ (drF_ok hE h1 h6 hp')) (fun pc hp' => hS args m _ hp')
    · exact hS args m _ (drF_ok hE h1 h6 (rowF_ok hE h1 h6 hp))
def lX : List (Nat × Sum) := (33, dispA shArg3 (fun n => drX true n (ofI n)) (elW 33)) :: (27, dispA shPtr3 (fun n => drX false n (ofS n)) (elW 27)) :: lW
def cxX : Ctx := ctxL lX
theorem cxX_okF (hE : FokG E.fn) : CtxOk Tryz.prog E cxX ∧ CtxPc E cxX :=
  ctxL_cons (ctxL_cons (cxW_okF hE)
    (dispA_ok (fun _ _ n hn => drX_ok hE (shPtr3_ok hn).1 (shPtr3_ok hn).2 (ofS_ok hE n (shPtr3_ok hn).1 (shPtr3_ok hn).2)) (elW_ok hE 27)) (dispA_pc (fun _ _ n hn => drX_pc hE (shPtr3_ok hn).1 (shPtr3_ok hn).2 (sumQ_pc (elW_pc hE 27))) (elW_pc hE 27)))
    (dispA_ok (fun _ _ n hn => drX_ok hE (shArg3_ok hn).1 (shArg3_ok hn).2 (ofI_ok hE n (shArg3_ok hn).1 (shArg3_ok hn).2)) (elW_ok hE 33)) (dispA_pc (fun _ _ n hn => drX_pc hE (shArg3_ok hn).1 (shArg3_ok hn).2 (sumQ_pc (elW_pc hE 33))) (elW_pc hE 33))
end
end Go.Proofs.YtfdpcmijifdfeaaGreat.Leaf
