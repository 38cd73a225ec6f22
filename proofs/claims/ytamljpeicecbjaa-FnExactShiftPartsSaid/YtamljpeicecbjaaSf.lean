/- The contracts of shifts of parts, for one to six pigments. No condition. -/
import Derived.Test.YtamljpeicecbjaaCs
import Derived.Test.YtamljpeicecbjaaSxAgr
set_option linter.unusedVariables false
set_option linter.unusedSimpArgs false
set_option maxRecDepth 100000
noncomputable section
namespace Go.Proofs.Ytamljpeicecbjaa.Leaf
open Go.Sx
def rpS : Rp := (true, [(true, f6), (false, [.int .i64])])
def paS (n : Nat) : List Pa := [.aggS n pgs t6, .agg f6, .sc i64, .sc i64, .sc k32]
def oS (f n : Nat) : Out Res := callQ Try.prog cxB 1000 f (paS n) []
def SP (n : Nat) : Tm := (treeT rpS (oS 65 n)).getD .nil
def DsS : List (Nat × Tm) := (56, SP 6) :: (55, SP 5) :: (54, SP 4) :: (53, SP 3) :: (52, SP 2) :: (51, SP 1) :: Ds
def FS : Nat → Sc → Sc := buildF F1 DsS
theorem ascS : defsAsc DsS 900 = true := by kernel_rfl
structure FokS (F : Nat → Sc → Sc) : Prop extends Fok F where
  sf : ∀ id D, (id, D) ∈ DsS → ∀ c, F id c = D.den ⟨fun i => c.at_ i, F⟩
theorem FokS_FS : FokS FS where
  defs := fun _ _ h c => buildF_def ascS (.tail _ (.tail _ (.tail _ (.tail _ (.tail _ (.tail _ h)))))) c
  rows := fun c => by
    have h : FS 900 = F1 900 := buildF_base (by kernel_rfl)
    rw [h]; simp [F1]
  name := fun c => by
    have h : FS 0 = F1 0 := buildF_base (by kernel_rfl)
    rw [h]; simp [F1]
  size := fun c => by
    have h : FS 1 = F1 1 := buildF_base (by kernel_rfl)
    rw [h]; simp [F1]
  sf := fun _ _ h c => buildF_def ascS h c
theorem cxB_okF' {E : Env} (hE : Fok E.fn) : ∀ E' : Env, E'.fn = E.fn → CtxOk Try.prog E' cxB ∧ CtxPc E' cxB := fun E' h => cxB_okF (by rw [h]; exact hE)
def shS (n : Nat) : Sum := sumR (paS n) [] rpS 7 (50 + n) (call cxB Try.prog 1000 65)
def shI (n : Nat) : Sum := sumR (paS n) [] rpS 7 (50 + n) (call cxB Try.prog 1000 67)
theorem ss_1 : treeIs rpS (callQ Try.prog cxB 1000 65 (paS 1) []) (SP 1) = true := by kernel_rfl
theorem sa_1 : agreeH rpS [] 100000 [] [] (callQ Try.prog cxB 1000 65 (paS 1) []) (callQ Try.prog cxB 1000 67 (paS 1) []) = true := by kernel_rfl
theorem sk_1 : (Nat.ble (bldP (paS 1) 0 0).j 1000 && undersF (bldP (paS 1) 0 0).n []) = true := by kernel_rfl
theorem sl_1 : ((SP 1).under (bldP (paS 1) 0 0).n && Nat.beq 7 (sizeR rpS.2)) = true := by kernel_rfl
theorem ss_2 : treeIs rpS (callQ Try.prog cxB 1000 65 (paS 2) []) (SP 2) = true := by kernel_rfl
theorem sa_2 : agreeH rpS [] 100000 [] [] (callQ Try.prog cxB 1000 65 (paS 2) []) (callQ Try.prog cxB 1000 67 (paS 2) []) = true := by kernel_rfl
theorem sk_2 : (Nat.ble (bldP (paS 2) 0 0).j 1000 && undersF (bldP (paS 2) 0 0).n []) = true := by kernel_rfl
theorem sl_2 : ((SP 2).under (bldP (paS 2) 0 0).n && Nat.beq 7 (sizeR rpS.2)) = true := by kernel_rfl
theorem ss_3 : treeIs rpS (callQ Try.prog cxB 1000 65 (paS 3) []) (SP 3) = true := by kernel_rfl
theorem sa_3 : agreeH rpS [] 100000 [] [] (callQ Try.prog cxB 1000 65 (paS 3) []) (callQ Try.prog cxB 1000 67 (paS 3) []) = true := by kernel_rfl
theorem sk_3 : (Nat.ble (bldP (paS 3) 0 0).j 1000 && undersF (bldP (paS 3) 0 0).n []) = true := by kernel_rfl
theorem sl_3 : ((SP 3).under (bldP (paS 3) 0 0).n && Nat.beq 7 (sizeR rpS.2)) = true := by kernel_rfl
theorem ss_4 : treeIs rpS (callQ Try.prog cxB 1000 65 (paS 4) []) (SP 4) = true := by kernel_rfl
theorem sa_4 : agreeH rpS [] 100000 [] [] (callQ Try.prog cxB 1000 65 (paS 4) []) (callQ Try.prog cxB 1000 67 (paS 4) []) = true := by kernel_rfl
theorem sk_4 : (Nat.ble (bldP (paS 4) 0 0).j 1000 && undersF (bldP (paS 4) 0 0).n []) = true := by kernel_rfl
theorem sl_4 : ((SP 4).under (bldP (paS 4) 0 0).n && Nat.beq 7 (sizeR rpS.2)) = true := by kernel_rfl
theorem ss_5 : treeIs rpS (callQ Try.prog cxB 1000 65 (paS 5) []) (SP 5) = true := by kernel_rfl
theorem sa_5 : agreeH rpS [] 100000 [] [] (callQ Try.prog cxB 1000 65 (paS 5) []) (callQ Try.prog cxB 1000 67 (paS 5) []) = true := by kernel_rfl
theorem sk_5 : (Nat.ble (bldP (paS 5) 0 0).j 1000 && undersF (bldP (paS 5) 0 0).n []) = true := by kernel_rfl
theorem sl_5 : ((SP 5).under (bldP (paS 5) 0 0).n && Nat.beq 7 (sizeR rpS.2)) = true := by kernel_rfl
theorem ss_6 : treeIs rpS (callQ Try.prog cxB 1000 65 (paS 6) []) (SP 6) = true := by kernel_rfl
theorem sa_6 : agreeH rpS [] 100000 [] [] (callQ Try.prog cxB 1000 65 (paS 6) []) (callQ Try.prog cxB 1000 67 (paS 6) []) = true := by kernel_rfl
theorem sk_6 : (Nat.ble (bldP (paS 6) 0 0).j 1000 && undersF (bldP (paS 6) 0 0).n []) = true := by kernel_rfl
theorem sl_6 : ((SP 6).under (bldP (paS 6) 0 0).n && Nat.beq 7 (sizeR rpS.2)) = true := by kernel_rfl
theorem els_okB {E : Env} (hE : Fok E.fn) (f : Nat) : SumOk Try.prog E f (call cxB Try.prog 1000 f) := call_ok (cxB_okF hE).1 (cxB_okF hE).2 nm mixed 1000 f
theorem els_pcB {E : Env} (hE : Fok E.fn) {f : Nat} {ps : List Pa} {ass : PC} {mk : List Tm → SV} : ∀ args m pc, PcOk E pc → Pcs E Res.pc (sumQ ps ass mk (call cxB Try.prog 1000 f) args m pc) := fun args m pc hp =>
  sumQ_pc (fun args m pc hp => call_pc (cxB_okF hE).2 1000 f args m pc hp) args m pc hp
theorem shS_ok {E : Env} (hE : FokS E.fn) (n : Nat) (h1 : 1 ≤ n) (h6 : n ≤ 6) : SumOk Try.prog E 65 (shS n) := by
  have hels := els_okB hE.toFok 65
  match n, h1, h6 with
  | 1, _, _ => exact sumR_ok (ctx := cxB) (n := 1000) (D := SP 1) (pcx := []) (cxB_okF' hE.toFok) nm mixed (hE.sf 51 (SP 1) (show (51, SP 1) ∈ DsS from .tail _ (.tail _ (.tail _ (.tail _ (.tail _ (.head _))))))) sk_1 sl_1 (fun _ _ hp => hp) ss_1 hels
  | 2, _, _ => exact sumR_ok (ctx := cxB) (n := 1000) (D := SP 2) (pcx := []) (cxB_okF' hE.toFok) nm mixed (hE.sf 52 (SP 2) (show (52, SP 2) ∈ DsS from .tail _ (.tail _ (.tail _ (.tail _ (.head _)))))) sk_2 sl_2 (fun _ _ hp => hp) ss_2 hels
  | 3, _, _ => exact sumR_ok (ctx := cxB) (n := 1000) (D := SP 3) (pcx := []) (cxB_okF' hE.toFok) nm mixed (hE.sf 53 (SP 3) (show (53, SP 3) ∈ DsS from .tail _ (.tail _ (.tail _ (.head _))))) sk_3 sl_3 (fun _ _ hp => hp) ss_3 hels
  | 4, _, _ => exact sumR_ok (ctx := cxB) (n := 1000) (D := SP 4) (pcx := []) (cxB_okF' hE.toFok) nm mixed (hE.sf 54 (SP 4) (show (54, SP 4) ∈ DsS from .tail _ (.tail _ (.head _)))) sk_4 sl_4 (fun _ _ hp => hp) ss_4 hels
  | 5, _, _ => exact sumR_ok (ctx := cxB) (n := 1000) (D := SP 5) (pcx := []) (cxB_okF' hE.toFok) nm mixed (hE.sf 55 (SP 5) (show (55, SP 5) ∈ DsS from .tail _ (.head _))) sk_5 sl_5 (fun _ _ hp => hp) ss_5 hels
  | 6, _, _ => exact sumR_ok (ctx := cxB) (n := 1000) (D := SP 6) (pcx := []) (cxB_okF' hE.toFok) nm mixed (hE.sf 56 (SP 6) (show (56, SP 6) ∈ DsS from .head _)) sk_6 sl_6 (fun _ _ hp => hp) ss_6 hels
theorem shI_ok {E : Env} (hE : FokS E.fn) (n : Nat) (h1 : 1 ≤ n) (h6 : n ≤ 6) : SumOk Try.prog E 67 (shI n) := by
  have hels := els_okB hE.toFok 67
  match n, h1, h6 with
  | 1, _, _ => exact sumH_ok (ctx := cxB) (ctx' := cxB) (g := 65) (ps := paS 1) (n := 1000) (D := SP 1) (pcx := []) (cxB_okF' hE.toFok) nm mixed (hE.sf 51 (SP 1) (show (51, SP 1) ∈ DsS from .tail _ (.tail _ (.tail _ (.tail _ (.tail _ (.head _))))))) sk_1 sl_1 (fun _ _ hp => hp) ss_1 sa_1 hels
  | 2, _, _ => exact sumH_ok (ctx := cxB) (ctx' := cxB) (g := 65) (ps := paS 2) (n := 1000) (D := SP 2) (pcx := []) (cxB_okF' hE.toFok) nm mixed (hE.sf 52 (SP 2) (show (52, SP 2) ∈ DsS from .tail _ (.tail _ (.tail _ (.tail _ (.head _)))))) sk_2 sl_2 (fun _ _ hp => hp) ss_2 sa_2 hels
  | 3, _, _ => exact sumH_ok (ctx := cxB) (ctx' := cxB) (g := 65) (ps := paS 3) (n := 1000) (D := SP 3) (pcx := []) (cxB_okF' hE.toFok) nm mixed (hE.sf 53 (SP 3) (show (53, SP 3) ∈ DsS from .tail _ (.tail _ (.tail _ (.head _))))) sk_3 sl_3 (fun _ _ hp => hp) ss_3 sa_3 hels
  | 4, _, _ => exact sumH_ok (ctx := cxB) (ctx' := cxB) (g := 65) (ps := paS 4) (n := 1000) (D := SP 4) (pcx := []) (cxB_okF' hE.toFok) nm mixed (hE.sf 54 (SP 4) (show (54, SP 4) ∈ DsS from .tail _ (.tail _ (.head _)))) sk_4 sl_4 (fun _ _ hp => hp) ss_4 sa_4 hels
  | 5, _, _ => exact sumH_ok (ctx := cxB) (ctx' := cxB) (g := 65) (ps := paS 5) (n := 1000) (D := SP 5) (pcx := []) (cxB_okF' hE.toFok) nm mixed (hE.sf 55 (SP 5) (show (55, SP 5) ∈ DsS from .tail _ (.head _))) sk_5 sl_5 (fun _ _ hp => hp) ss_5 sa_5 hels
  | 6, _, _ => exact sumH_ok (ctx := cxB) (ctx' := cxB) (g := 65) (ps := paS 6) (n := 1000) (D := SP 6) (pcx := []) (cxB_okF' hE.toFok) nm mixed (hE.sf 56 (SP 6) (show (56, SP 6) ∈ DsS from .head _)) sk_6 sl_6 (fun _ _ hp => hp) ss_6 sa_6 hels
def disp (fits : List SV → Mem → Option Nat) (S : Nat → Sum) (els : Sum) : Sum := fun args m pc => match fits args m.mem with
  | some n => S n args m pc
  | none => els args m pc
theorem disp_ok {E : Env} {f : Nat} {fits : List SV → Mem → Option Nat} {S : Nat → Sum} {els : Sum} (h : ∀ args mem n, fits args mem = some n → SumOk Try.prog E f (S n)) (k : SumOk Try.prog E f els) : SumOk Try.prog E f (disp fits S els) := by
  intro args m pc r hr
  unfold disp at hr
  split at hr
  · rename_i n hn; exact h _ _ n hn args m pc r hr
  · exact k args m pc r hr
theorem disp_pc {E : Env} {fits : List SV → Mem → Option Nat} {S : Nat → Sum} {els : Sum} (h : ∀ n args m pc, PcOk E pc → Pcs E Res.pc (S n args m pc)) (k : ∀ args m pc, PcOk E pc → Pcs E Res.pc (els args m pc)) (args : List SV) (m : Mm) (pc : PC) (hp : PcOk E pc) : Pcs E Res.pc (disp fits S els args m pc) := by
  unfold disp
  split
  · exact h _ args m pc hp
  · exact k args m pc hp
def shArg5 : List SV → Mem → Option Nat
  | s :: _ :: _, mem => shArg [s] mem
  | _, _ => none
theorem shArg5_ok {args : List SV} {mem : Mem} {k : Nat} (h : shArg5 args mem = some k) : 1 ≤ k ∧ k ≤ 6 := by
  unfold shArg5 at h
  split at h
  · exact shArg_ok h
  · cases h
def cxSf : Ctx := ctxL ((65, disp shArg5 shS (call cxB Try.prog 1000 65)) :: (67, disp shArg5 shI (call cxB Try.prog 1000 67)) :: orL (ctxL l3) Try.prog 1000 l5)
theorem cxSf_okF {E : Env} (hE : FokS E.fn) : CtxOk Try.prog E cxSf ∧ CtxPc E cxSf := by
  have hB := cxB_okF hE.toFok
  exact ctxL_cons (ctxL_cons hB
    (disp_ok (fun _ _ n hn => shI_ok hE n (shArg5_ok hn).1 (shArg5_ok hn).2) (els_okB hE.toFok 67)) (disp_pc (fun n => els_pcB hE.toFok) (call_pc hB.2 1000 67)))
    (disp_ok (fun _ _ n hn => shS_ok hE n (shArg5_ok hn).1 (shArg5_ok hn).2) (els_okB hE.toFok 65)) (disp_pc (fun n => els_pcB hE.toFok) (call_pc hB.2 1000 65))
end Go.Proofs.Ytamljpeicecbjaa.Leaf
namespace Go.Proofs.Ytamljpeicecbjaa.LeafS
open Go.Sx
def cxB : Ctx := Leaf.cxSf
theorem cxB_ok : ∀ E : Env, E.fn = Leaf.FS → CtxOk Try.prog E cxB ∧ CtxPc E cxB := fun E hE => Leaf.cxSf_okF (by rw [hE]; exact Leaf.FokS_FS)
theorem F2_900 : ∀ c, Leaf.FS 900 c = F900 c := Leaf.FokS_FS.rows
end Go.Proofs.Ytamljpeicecbjaa.LeafS
