/- The contracts of whether drops are some, for one to six pigments; the context of laws that hand out lists of drops. No condition. -/
import Derived.Test.YtamljpeicecbjaaMkO
import Derived.Test.YtamljpeicecbjaaCs
import Derived.Test.YtamljpeicecbjaaSxDrop
set_option linter.unusedVariables false
set_option linter.unusedSimpArgs false
set_option maxRecDepth 100000
noncomputable section
namespace Go.Proofs.Ytamljpeicecbjaa.Leaf
open Go.Sx
def rpB : Rp := (false, [(false, [.bool])])
def asA (n : Nat) : PC := [(.op .eqi (.var 0) (.il (.ofNat n)), true)]
def raI (n : Nat) : Out Res := callQ Try.prog cxB 1000 138 [.sc i64, .agg d6] (asA n)
def raS (n : Nat) : Out Res := callQ Try.prog cxB 1000 144 [.ptS n pgs t6, .agg d6] []
def AD (n : Nat) : Tm := ((treeT rpB (raI n)).getD .nil).subst (.nil :: varsL 6 0)
def DsA : List (Nat × Tm) := (66, AD 6) :: (65, AD 5) :: (64, AD 4) :: (63, AD 3) :: (62, AD 2) :: (61, AD 1) :: Ds
def F1a : Nat → Sc → Sc := fun k c => if k = 910 then marksF kD c else if k = 911 then marksF kC c else F1 k c
def FA : Nat → Sc → Sc := buildF F1a DsA
theorem ascA : defsAsc DsA 900 = true := by kernel_rfl
structure FokA (F : Nat → Sc → Sc) : Prop extends Fok F where
  ad : ∀ id D, (id, D) ∈ DsA → ∀ c, F id c = D.den ⟨fun i => c.at_ i, F⟩
  mkD : ∀ c, F 910 c = marksF kD c
  mkC : ∀ c, F 911 c = marksF kC c
theorem FokA_FA : FokA FA where
  defs := fun _ _ h c => buildF_def ascA (.tail _ (.tail _ (.tail _ (.tail _ (.tail _ (.tail _ h)))))) c
  rows := fun c => by
    have h : FA 900 = F1a 900 := buildF_base (by kernel_rfl)
    rw [h]; simp [F1a, F1]
  name := fun c => by
    have h : FA 0 = F1a 0 := buildF_base (by kernel_rfl)
    rw [h]; simp [F1a, F1]
  size := fun c => by
    have h : FA 1 = F1a 1 := buildF_base (by kernel_rfl)
    rw [h]; simp [F1a, F1]
  ad := fun _ _ h c => buildF_def ascA h c
  mkD := fun c => by
    have h : FA 910 = F1a 910 := buildF_base (by kernel_rfl)
    rw [h]; simp [F1a]
  mkC := fun c => by
    have h : FA 911 = F1a 911 := buildF_base (by kernel_rfl)
    rw [h]; simp [F1a]
theorem cxB_okA {E : Env} (hE : Fok E.fn) : ∀ E' : Env, E'.fn = E.fn → CtxOk Try.prog E' cxB ∧ CtxPc E' cxB := fun E' h => cxB_okF (by rw [h]; exact hE)
def elB (f : Nat) : Sum := call cxB Try.prog 1000 f
def adI (n : Nat) : Sum := sumRk [.sc i64, .agg d6] (asA n) rpB 1 (60 + n) 1 (elB 138)
def adS (n : Nat) : Sum := sumRk [.ptS n pgs t6, .agg d6] [] rpB 1 (60 + n) (6 + 34 * n) (elB 144)
theorem ai_1 : treeIs rpB (callQ Try.prog cxB 1000 138 [.sc i64, .agg d6] (asA 1)) ((AD 1).subst (varsL 6 1)) = true := by kernel_rfl
theorem as_1 : treeIs rpB (callQ Try.prog cxB 1000 144 [.ptS 1 pgs t6, .agg d6] []) ((AD 1).subst (varsL 6 (6 + 34 * 1))) = true := by kernel_rfl
theorem aj_1 : ((Nat.ble (bldP [.sc i64, .agg d6] 0 0).j 1000 && undersF (bldP [.sc i64, .agg d6] 0 0).n (asA 1)) && (((AD 1).under 6 && Nat.beq 1 (sizeR rpB.2)) && Nat.beq (bldP [.sc i64, .agg d6] 0 0).n (1 + 6))) = true := by kernel_rfl
theorem ak_1 : ((Nat.ble (bldP [.ptS 1 pgs t6, .agg d6] 0 0).j 1000 && undersF (bldP [.ptS 1 pgs t6, .agg d6] 0 0).n []) && (((AD 1).under 6 && Nat.beq 1 (sizeR rpB.2)) && Nat.beq (bldP [.ptS 1 pgs t6, .agg d6] 0 0).n (6 + 34 * 1 + 6))) = true := by kernel_rfl
theorem ai_2 : treeIs rpB (callQ Try.prog cxB 1000 138 [.sc i64, .agg d6] (asA 2)) ((AD 2).subst (varsL 6 1)) = true := by kernel_rfl
theorem as_2 : treeIs rpB (callQ Try.prog cxB 1000 144 [.ptS 2 pgs t6, .agg d6] []) ((AD 2).subst (varsL 6 (6 + 34 * 2))) = true := by kernel_rfl
theorem aj_2 : ((Nat.ble (bldP [.sc i64, .agg d6] 0 0).j 1000 && undersF (bldP [.sc i64, .agg d6] 0 0).n (asA 2)) && (((AD 2).under 6 && Nat.beq 1 (sizeR rpB.2)) && Nat.beq (bldP [.sc i64, .agg d6] 0 0).n (1 + 6))) = true := by kernel_rfl
theorem ak_2 : ((Nat.ble (bldP [.ptS 2 pgs t6, .agg d6] 0 0).j 1000 && undersF (bldP [.ptS 2 pgs t6, .agg d6] 0 0).n []) && (((AD 2).under 6 && Nat.beq 1 (sizeR rpB.2)) && Nat.beq (bldP [.ptS 2 pgs t6, .agg d6] 0 0).n (6 + 34 * 2 + 6))) = true := by kernel_rfl
theorem ai_3 : treeIs rpB (callQ Try.prog cxB 1000 138 [.sc i64, .agg d6] (asA 3)) ((AD 3).subst (varsL 6 1)) = true := by kernel_rfl
theorem as_3 : treeIs rpB (callQ Try.prog cxB 1000 144 [.ptS 3 pgs t6, .agg d6] []) ((AD 3).subst (varsL 6 (6 + 34 * 3))) = true := by kernel_rfl
theorem aj_3 : ((Nat.ble (bldP [.sc i64, .agg d6] 0 0).j 1000 && undersF (bldP [.sc i64, .agg d6] 0 0).n (asA 3)) && (((AD 3).under 6 && Nat.beq 1 (sizeR rpB.2)) && Nat.beq (bldP [.sc i64, .agg d6] 0 0).n (1 + 6))) = true := by kernel_rfl
theorem ak_3 : ((Nat.ble (bldP [.ptS 3 pgs t6, .agg d6] 0 0).j 1000 && undersF (bldP [.ptS 3 pgs t6, .agg d6] 0 0).n []) && (((AD 3).under 6 && Nat.beq 1 (sizeR rpB.2)) && Nat.beq (bldP [.ptS 3 pgs t6, .agg d6] 0 0).n (6 + 34 * 3 + 6))) = true := by kernel_rfl
theorem ai_4 : treeIs rpB (callQ Try.prog cxB 1000 138 [.sc i64, .agg d6] (asA 4)) ((AD 4).subst (varsL 6 1)) = true := by kernel_rfl
theorem as_4 : treeIs rpB (callQ Try.prog cxB 1000 144 [.ptS 4 pgs t6, .agg d6] []) ((AD 4).subst (varsL 6 (6 + 34 * 4))) = true := by kernel_rfl
theorem aj_4 : ((Nat.ble (bldP [.sc i64, .agg d6] 0 0).j 1000 && undersF (bldP [.sc i64, .agg d6] 0 0).n (asA 4)) && (((AD 4).under 6 && Nat.beq 1 (sizeR rpB.2)) && Nat.beq (bldP [.sc i64, .agg d6] 0 0).n (1 + 6))) = true := by kernel_rfl
theorem ak_4 : ((Nat.ble (bldP [.ptS 4 pgs t6, .agg d6] 0 0).j 1000 && undersF (bldP [.ptS 4 pgs t6, .agg d6] 0 0).n []) && (((AD 4).under 6 && Nat.beq 1 (sizeR rpB.2)) && Nat.beq (bldP [.ptS 4 pgs t6, .agg d6] 0 0).n (6 + 34 * 4 + 6))) = true := by kernel_rfl
theorem ai_5 : treeIs rpB (callQ Try.prog cxB 1000 138 [.sc i64, .agg d6] (asA 5)) ((AD 5).subst (varsL 6 1)) = true := by kernel_rfl
theorem as_5 : treeIs rpB (callQ Try.prog cxB 1000 144 [.ptS 5 pgs t6, .agg d6] []) ((AD 5).subst (varsL 6 (6 + 34 * 5))) = true := by kernel_rfl
theorem aj_5 : ((Nat.ble (bldP [.sc i64, .agg d6] 0 0).j 1000 && undersF (bldP [.sc i64, .agg d6] 0 0).n (asA 5)) && (((AD 5).under 6 && Nat.beq 1 (sizeR rpB.2)) && Nat.beq (bldP [.sc i64, .agg d6] 0 0).n (1 + 6))) = true := by kernel_rfl
theorem ak_5 : ((Nat.ble (bldP [.ptS 5 pgs t6, .agg d6] 0 0).j 1000 && undersF (bldP [.ptS 5 pgs t6, .agg d6] 0 0).n []) && (((AD 5).under 6 && Nat.beq 1 (sizeR rpB.2)) && Nat.beq (bldP [.ptS 5 pgs t6, .agg d6] 0 0).n (6 + 34 * 5 + 6))) = true := by kernel_rfl
theorem ai_6 : treeIs rpB (callQ Try.prog cxB 1000 138 [.sc i64, .agg d6] (asA 6)) ((AD 6).subst (varsL 6 1)) = true := by kernel_rfl
theorem as_6 : treeIs rpB (callQ Try.prog cxB 1000 144 [.ptS 6 pgs t6, .agg d6] []) ((AD 6).subst (varsL 6 (6 + 34 * 6))) = true := by kernel_rfl
theorem aj_6 : ((Nat.ble (bldP [.sc i64, .agg d6] 0 0).j 1000 && undersF (bldP [.sc i64, .agg d6] 0 0).n (asA 6)) && (((AD 6).under 6 && Nat.beq 1 (sizeR rpB.2)) && Nat.beq (bldP [.sc i64, .agg d6] 0 0).n (1 + 6))) = true := by kernel_rfl
theorem ak_6 : ((Nat.ble (bldP [.ptS 6 pgs t6, .agg d6] 0 0).j 1000 && undersF (bldP [.ptS 6 pgs t6, .agg d6] 0 0).n []) && (((AD 6).under 6 && Nat.beq 1 (sizeR rpB.2)) && Nat.beq (bldP [.ptS 6 pgs t6, .agg d6] 0 0).n (6 + 34 * 6 + 6))) = true := by kernel_rfl
theorem elB_ok {E : Env} (hE : Fok E.fn) (f : Nat) : SumOk Try.prog E f (elB f) := call_ok (cxB_okF hE).1 (cxB_okF hE).2 nm mixed 1000 f
theorem adI_ok {E : Env} (hE : FokA E.fn) (n : Nat) (h1 : 1 ≤ n) (h6 : n ≤ 6) : SumOk Try.prog E 138 (adI n) := by
  match n, h1, h6 with
  | 1, _, _ => exact sumRk_ok (ctx := cxB) (n := 1000) (w := 6) (D := AD 1) (pcx := asA 1) (cxB_okA hE.toFok) nm mixed (hE.ad 61 (AD 1) (show (61, AD 1) ∈ DsA from .tail _ (.tail _ (.tail _ (.tail _ (.tail _ (.head _))))))) aj_1 (fun _ _ h => h) ai_1 (elB_ok hE.toFok 138)
  | 2, _, _ => exact sumRk_ok (ctx := cxB) (n := 1000) (w := 6) (D := AD 2) (pcx := asA 2) (cxB_okA hE.toFok) nm mixed (hE.ad 62 (AD 2) (show (62, AD 2) ∈ DsA from .tail _ (.tail _ (.tail _ (.tail _ (.head _)))))) aj_2 (fun _ _ h => h) ai_2 (elB_ok hE.toFok 138)
  | 3, _, _ => exact sumRk_ok (ctx := cxB) (n := 1000) (w := 6) (D := AD 3) (pcx := asA 3) (cxB_okA hE.toFok) nm mixed (hE.ad 63 (AD 3) (show (63, AD 3) ∈ DsA from .tail _ (.tail _ (.tail _ (.head _))))) aj_3 (fun _ _ h => h) ai_3 (elB_ok hE.toFok 138)
  | 4, _, _ => exact sumRk_ok (ctx := cxB) (n := 1000) (w := 6) (D := AD 4) (pcx := asA 4) (cxB_okA hE.toFok) nm mixed (hE.ad 64 (AD 4) (show (64, AD 4) ∈ DsA from .tail _ (.tail _ (.head _)))) aj_4 (fun _ _ h => h) ai_4 (elB_ok hE.toFok 138)
  | 5, _, _ => exact sumRk_ok (ctx := cxB) (n := 1000) (w := 6) (D := AD 5) (pcx := asA 5) (cxB_okA hE.toFok) nm mixed (hE.ad 65 (AD 5) (show (65, AD 5) ∈ DsA from .tail _ (.head _))) aj_5 (fun _ _ h => h) ai_5 (elB_ok hE.toFok 138)
  | 6, _, _ => exact sumRk_ok (ctx := cxB) (n := 1000) (w := 6) (D := AD 6) (pcx := asA 6) (cxB_okA hE.toFok) nm mixed (hE.ad 66 (AD 6) (show (66, AD 6) ∈ DsA from .head _)) aj_6 (fun _ _ h => h) ai_6 (elB_ok hE.toFok 138)
theorem adS_ok {E : Env} (hE : FokA E.fn) (n : Nat) (h1 : 1 ≤ n) (h6 : n ≤ 6) : SumOk Try.prog E 144 (adS n) := by
  match n, h1, h6 with
  | 1, _, _ => exact sumRk_ok (ctx := cxB) (n := 1000) (w := 6) (D := AD 1) (pcx := []) (cxB_okA hE.toFok) nm mixed (hE.ad 61 (AD 1) (show (61, AD 1) ∈ DsA from .tail _ (.tail _ (.tail _ (.tail _ (.tail _ (.head _))))))) ak_1 (fun _ _ h => h) as_1 (elB_ok hE.toFok 144)
  | 2, _, _ => exact sumRk_ok (ctx := cxB) (n := 1000) (w := 6) (D := AD 2) (pcx := []) (cxB_okA hE.toFok) nm mixed (hE.ad 62 (AD 2) (show (62, AD 2) ∈ DsA from .tail _ (.tail _ (.tail _ (.tail _ (.head _)))))) ak_2 (fun _ _ h => h) as_2 (elB_ok hE.toFok 144)
  | 3, _, _ => exact sumRk_ok (ctx := cxB) (n := 1000) (w := 6) (D := AD 3) (pcx := []) (cxB_okA hE.toFok) nm mixed (hE.ad 63 (AD 3) (show (63, AD 3) ∈ DsA from .tail _ (.tail _ (.tail _ (.head _))))) ak_3 (fun _ _ h => h) as_3 (elB_ok hE.toFok 144)
  | 4, _, _ => exact sumRk_ok (ctx := cxB) (n := 1000) (w := 6) (D := AD 4) (pcx := []) (cxB_okA hE.toFok) nm mixed (hE.ad 64 (AD 4) (show (64, AD 4) ∈ DsA from .tail _ (.tail _ (.head _)))) ak_4 (fun _ _ h => h) as_4 (elB_ok hE.toFok 144)
  | 5, _, _ => exact sumRk_ok (ctx := cxB) (n := 1000) (w := 6) (D := AD 5) (pcx := []) (cxB_okA hE.toFok) nm mixed (hE.ad 65 (AD 5) (show (65, AD 5) ∈ DsA from .tail _ (.head _))) ak_5 (fun _ _ h => h) as_5 (elB_ok hE.toFok 144)
  | 6, _, _ => exact sumRk_ok (ctx := cxB) (n := 1000) (w := 6) (D := AD 6) (pcx := []) (cxB_okA hE.toFok) nm mixed (hE.ad 66 (AD 6) (show (66, AD 6) ∈ DsA from .head _)) ak_6 (fun _ _ h => h) as_6 (elB_ok hE.toFok 144)
def dispA (fits : List SV → Mem → Option Nat) (S : Nat → Sum) (els : Sum) : Sum := fun args m pc => match fits args m.mem with
  | some n => S n args m pc
  | none => els args m pc
theorem dispA_ok {E : Env} {f : Nat} {fits : List SV → Mem → Option Nat} {S : Nat → Sum} {els : Sum} (h : ∀ args mem n, fits args mem = some n → SumOk Try.prog E f (S n)) (k : SumOk Try.prog E f els) : SumOk Try.prog E f (dispA fits S els) := by
  intro args m pc r hr
  unfold dispA at hr
  split at hr
  · rename_i n hn; exact h _ _ n hn args m pc r hr
  · exact k args m pc r hr
theorem dispA_pc {E : Env} {fits : List SV → Mem → Option Nat} {S : Nat → Sum} {els : Sum} (h : ∀ n args m pc, PcOk E pc → Pcs E Res.pc (S n args m pc)) (k : ∀ args m pc, PcOk E pc → Pcs E Res.pc (els args m pc)) (args : List SV) (m : Mm) (pc : PC) (hp : PcOk E pc) : Pcs E Res.pc (dispA fits S els args m pc) := by
  unfold dispA
  split
  · exact h _ args m pc hp
  · exact k args m pc hp
def litArg : List SV → Mem → Option Nat
  | [.sc _ (.il (.ofNat n)), .agg _], _ => match Nat.ble 1 n, Nat.ble n 6 with
    | true, true => some n
    | _, _ => none
  | _, _ => none
theorem litArg_ok {args : List SV} {mem : Mem} {k : Nat} (h : litArg args mem = some k) : 1 ≤ k ∧ k ≤ 6 := by
  unfold litArg at h
  split at h
  · split at h
    · rename_i h1 h2
      cases h
      exact ⟨Nat.le_of_ble_eq_true h1, Nat.le_of_ble_eq_true h2⟩
    · cases h
  · cases h
def ptrArg : List SV → Mem → Option Nat
  | [s, .agg _], mem => shPtr [s] mem
  | _, _ => none
theorem ptrArg_ok {args : List SV} {mem : Mem} {k : Nat} (h : ptrArg args mem = some k) : 1 ≤ k ∧ k ≤ 6 := by
  unfold ptrArg at h
  split at h
  · exact shPtr_ok h
  · cases h
def cxD : Ctx := ctxL ((138, dispA litArg adI (elB 138)) :: (144, dispA ptrArg adS (elB 144)) :: orL (ctxL l3) Try.prog 1000 l5)
theorem cxD_okF {E : Env} (hE : FokA E.fn) : CtxOk Try.prog E cxD ∧ CtxPc E cxD := by
  have hB := cxB_okF hE.toFok
  have pcs : ∀ {f : Nat} {ps : List Pa} {ass : PC} {mk : List Tm → SV} args m pc, PcOk E pc → Pcs E Res.pc (sumQ ps ass mk (elB f) args m pc) := fun args m pc hp => sumQ_pc (fun args m pc hp => call_pc hB.2 1000 _ args m pc hp) args m pc hp
  exact ctxL_cons (ctxL_cons hB
    (dispA_ok (fun _ _ n hn => adS_ok hE n (ptrArg_ok hn).1 (ptrArg_ok hn).2) (elB_ok hE.toFok 144)) (dispA_pc (fun n => pcs) (call_pc hB.2 1000 144)))
    (dispA_ok (fun _ _ n hn => adI_ok hE n (litArg_ok hn).1 (litArg_ok hn).2) (elB_ok hE.toFok 138)) (dispA_pc (fun n => pcs) (call_pc hB.2 1000 138))
/-! The law's own functions -/
theorem kD_sc : MkSc kD d6 := ⟨rfl, fun i => ⟨_, _, rfl, by
  have : i % 6 < 6 := Nat.mod_lt _ (by decide)
  show d6[i % 6]? = some (.int .i16)
  match i % 6, this with
  | 0, _ | 1, _ | 2, _ | 3, _ | 4, _ | 5, _ => rfl, fun E => rfl⟩⟩
theorem eqD : isTrueO (rE 82 d6) = true := by kernel_rfl
def hdOr (cx : Ctx) (K : MkKind) (id f : Nat) : Sum := orS (heldO K id) (call cx Try.prog 1000 f)
def eqOr (cx : Ctx) (ks : List SK) (f : Nat) : Sum := orS (eqOk ks) (call cx Try.prog 1000 f)
def cxDg : Ctx := ctxL ((82, eqOr cxD d6 82) :: (164, orS (heldX kP) (call cxD Try.prog 1000 164)) :: (84, hdOr cxD kD 910 84) :: (138, dispA litArg adI (elB 138)) :: (144, dispA ptrArg adS (elB 144)) :: orL (ctxL l3) Try.prog 1000 l5)
def cxDf : Ctx := withFxs (withFxs (withFx cxDg (fun g => Nat.beq g 73 || Nat.beq g 163 || Nat.beq g 83)) 163 (markX kP pgs)) 83 (markO kD d6 910)
theorem cxDf_okF {E : Env} (hE : FokA E.fn) : CtxOk Try.prog E cxDf ∧ CtxPc E cxDf := by
  have hT := cxD_okF hE
  have ca : ∀ f, SumOk Try.prog E f (call cxD Try.prog 1000 f) := fun f => call_ok hT.1 hT.2 nm mixed 1000 f
  have cp : ∀ f args m pc, PcOk E pc → Pcs E Res.pc (call cxD Try.prog 1000 f args m pc) := fun f => call_pc hT.2 1000 f
  have hg : CtxOk Try.prog E cxDg ∧ CtxPc E cxDg := ctxL_cons (ctxL_cons (ctxL_cons hT
    (orS_ok (heldO_ok kD_ok kD_sc hE.mkD ⟨_, Try.func84, by kernel_rfl⟩ heldD_walk) (ca 84)) (orS_pc heldO_pc (cp 84)))
    (orS_ok (heldX_ok kP_ok ⟨_, Try.func164, by kernel_rfl⟩ heldP_walk) (ca 164)) (orS_pc heldX_pc (cp 164)))
    (orS_ok (eqO_ok eqD ⟨_, Try.func82, by kernel_rfl⟩) (ca 82)) (orS_pc eqOk_pc (cp 82))
  exact withFxs_ok (withFxs_ok (withFx_ok hg _)
    (fun args σ o ho r hr hp => (markX_ok kP_ok rfl hE.rows ⟨_, Try.func163, by kernel_rfl⟩ markP_walk args σ o ho r hr hp).2) (fun args σ o ho hp r hr => (markX_ok kP_ok rfl hE.rows ⟨_, Try.func163, by kernel_rfl⟩ markP_walk args σ o ho r hr hp).1))
    (markO_fx kD_ok kD_sc hE.mkD hE.rows ⟨_, Try.func83, by kernel_rfl⟩ markD_walk) (markO_pc kD_ok kD_sc hE.rows ⟨_, Try.func83, by kernel_rfl⟩ markD_walk)
end Go.Proofs.Ytamljpeicecbjaa.Leaf
namespace Go.Proofs.Ytamljpeicecbjaa.LeafD
open Go.Sx
def cxB : Ctx := Leaf.cxDf
theorem cxB_ok : ∀ E : Env, E.fn = Leaf.FA → CtxOk Try.prog E cxB ∧ CtxPc E cxB := fun E hE => Leaf.cxDf_okF (by rw [hE]; exact Leaf.FokA_FA)
theorem F2_900 : ∀ c, Leaf.FA 900 c = F900 c := Leaf.FokA_FA.rows
end Go.Proofs.Ytamljpeicecbjaa.LeafD
