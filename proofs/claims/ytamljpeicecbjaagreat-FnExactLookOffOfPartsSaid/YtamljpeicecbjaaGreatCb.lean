/- The contracts of the third root; names for its loops and for what it computes. No condition. -/
import Derived.Test.YtamljpeicecbjaaGreatCt
import Derived.Test.YtamljpeicecbjaaGreatSxLite
import Derived.Test.YtamljpeicecbjaaGreatSxCbrt
set_option linter.unusedVariables false
set_option linter.unusedSimpArgs false
set_option maxRecDepth 100000
noncomputable section
namespace Go.Proofs.YtamljpeicecbjaaGreat.Leaf
open Go.Sx
def F1c : Nat → Sc → Sc := fun k c => if k = 30 then upF c else if k = 31 then dnF c else if k = 32 then nwF c else F1 k c
/-! The look of a curve under a light -/
def obs0 : List Nat := [1026770599, 1038257727, 1047483677, 1047937007, 1040740287, 1035577116, 1038150301, 1044293055, 1051988599, 1059344791, 1064477081, 1064470137, 1059320973, 1051884464, 1043851041, 1036138086]
def obs1 : List Nat := [1014565065, 1019559995, 1025758986, 1032814706, 1040496092, 1048576000, 1056269695, 1062165544, 1065353216, 1062165544, 1056269695, 1048576000, 1040496092, 1032814706, 1025758986, 1019559995]
def obs2 : List Nat := [1041329037, 1052770304, 1064682127, 1069547520, 1064682127, 1052770304, 1041329037, 1031127695, 1021953890, 1014350479, 1007418366, 1001001853, 995734155, 990997389, 986272668, 982490436]
def fa (x y : Tm) : Tm := .op (.fadd .f32) x y
def fs (x y : Tm) : Tm := .op (.fsub .f32) x y
def fm (x y : Tm) : Tm := .op (.fmul .f32) x y
def dotT (w : Nat → Tm) : List Nat → Nat → Tm → Tm
  | [], _, a => a
  | o :: r, i, a => dotT w r (i + 1) (fa a (fm (.fl o) (w i)))
def dotOf (w : Nat → Tm) : List Nat → Tm
  | [] => .nil
  | o :: r => dotT w r 1 (fm (.fl o) (w 0))
def seenT (os : List Nat) : Tm := .op (.fdiv .f32) (dotOf (fun i => fm (.var i) (.var (16 + i))) os) (dotOf (fun i => .var i) obs1)
def rtT (s : Tm) : Tm := .nth 0 (.app 33 (listT [s]))
def lookT (s0 s1 s2 : Tm) : Tm := listT [fs (fm (.fl 1122500608) (rtT s1)) (.fl 1098907648), fm (.fl 1140457472) (fs (rtT s0) (rtT s1)), fm (.fl 1128792064) (fs (rtT s1) (rtT s2)), .il 0]
def errT : Tm := listT [.fl 0, .fl 0, .fl 0, .il 4]
def nfT (s : Tm) : Tm := .op .notb (.op (.ffin .f32) s .nil) .nil
def LkG (s0 s1 s2 : Tm) : Tm := .ite (nfT s0) errT (.ite (nfT s1) errT (.ite (nfT s2) errT (lookT s0 s1 s2)))
def LkT : Tm := LkG (seenT obs0) (seenT obs1) (seenT obs2)
/-! How different two curves look under a light -/
def lkA (n : Nat) : Tm := .app 34 (listT (vars 16 0 ++ vars 16 n))
def sqT (x : Tm) : Tm := fm x x
def sdT (i : Nat) : Tm := sqT (fs (.nth i (lkA 16)) (.nth i (lkA 32)))
def rootT (x : Tm) : Tm := .op (.conv .f64 .f32) (.op .fsqrt (.op (.conv .f32 .f64) x .nil) .nil) .nil
def wtT : Tm := fa (.fl 1065353216) (fm (.fl 1008981770) (rootT (fa (sqT (.nth 1 (lkA 16))) (sqT (.nth 2 (lkA 16))))))
def dfT : Tm := rootT (fa (sdT 0) (.op (.fdiv .f32) (fa (sdT 1) (sdT 2)) (sqT wtT)))
def cdT (n : Nat) : Tm := .nth 3 (lkA n)
def badC (n : Nat) : Tm := .op .notb (.op .eqi (cdT n) (.il 0)) .nil
def UnG (x : Tm) : Tm := .ite (badC 16) (listT [.fl 0, cdT 16]) (.ite (badC 32) (listT [.fl 0, cdT 32]) x)
def UnT : Tm := UnG (listT [dfT, .il 0])
def UnS : Tm := UnG (.ite (.op .notb (.op (.ffin .f32) dfT .nil) .nil) (listT [.fl 0, .il 4]) (listT [dfT, .il 0]))
def Ds6 : List (Nat × Tm) := (35, UnT) :: (34, LkT) :: (33, CBs) :: Ds
def F5 : Nat → Sc → Sc := buildF F1c Ds6
theorem asc6 : defsAsc Ds6 900 = true := by kernel_rfl
structure Fok5 (F : Nat → Sc → Sc) : Prop extends Fok F where
  up : ∀ c, F 30 c = upF c
  dn : ∀ c, F 31 c = dnF c
  nw : ∀ c, F 32 c = nwF c
  cb : ∀ c, F 33 c = CBs.den ⟨fun i => c.at_ i, F⟩
  lk : ∀ c, F 34 c = LkT.den ⟨fun i => c.at_ i, F⟩
  un : ∀ c, F 35 c = UnT.den ⟨fun i => c.at_ i, F⟩
theorem Fok5_F5 : Fok5 F5 where
  defs := fun _ _ h c => buildF_def asc6 (.tail _ (.tail _ (.tail _ h))) c
  rows := fun c => by
    have h : F5 900 = F1c 900 := buildF_base (by kernel_rfl)
    rw [h]; simp [F1c, F1]
  name := fun c => by
    have h : F5 0 = F1c 0 := buildF_base (by kernel_rfl)
    rw [h]; simp [F1c, F1]
  size := fun c => by
    have h : F5 1 = F1c 1 := buildF_base (by kernel_rfl)
    rw [h]; simp [F1c, F1]
  up := fun c => by
    have h : F5 30 = F1c 30 := buildF_base (by kernel_rfl)
    rw [h]; simp [F1c]
  dn := fun c => by
    have h : F5 31 = F1c 31 := buildF_base (by kernel_rfl)
    rw [h]; simp [F1c]
  nw := fun c => by
    have h : F5 32 = F1c 32 := buildF_base (by kernel_rfl)
    rw [h]; simp [F1c]
  cb := fun c => buildF_def asc6 (show (33, CBs) ∈ Ds6 from .tail _ (.tail _ (.head _))) c
  lk := fun c => buildF_def asc6 (show (34, LkT) ∈ Ds6 from .tail _ (.head _)) c
  un := fun c => buildF_def asc6 (show (35, UnT) ∈ Ds6 from .head _) c
theorem andL {a b : Bool} (h : (a && b) = true) : a = true := by cases a <;> simp_all
theorem andR {a b : Bool} (h : (a && b) = true) : b = true := by cases a <;> simp_all
def lpS : List (Nat × LoopSpec) := [(9, Sup [.slot 4, .slot 5, .slot 0] 1), (12, Sdn [.slot 4, .slot 5, .slot 0] 1), (17, Snw [.slot 6, .slot 7, .slot 4, .slot 5, .slot 0] 1)]
def lpI : List (Nat × LoopSpec) := [(4, Sup [.slot 3, .slot 4, .slot 0] 1), (7, Sdn [.slot 3, .slot 4, .slot 0] 1), (12, Snw [.slot 5, .slot 23, .slot 3, .slot 4, .slot 0] 1)]
theorem lp_law {E : Env} (hE : Fok5 E.fn) {a b c : List Sx.Place} {x y z : Nat} (ha : a.length = 1 + 2) (hb : b.length = 1 + 2) (hc : c.length = 1 + 4) : ∀ k S, (k, S) ∈ [(x, Sup a 1), (y, Sdn b 1), (z, Snw c 1)] → LoopLaw S E := by
  intro k S h
  simp only [List.mem_cons, Prod.mk.injEq, List.not_mem_nil, or_false] at h
  rcases h with ⟨_, rfl⟩ | ⟨_, rfl⟩ | ⟨_, rfl⟩
  · exact up_law ha hE.up
  · exact dn_law hb hE.dn
  · exact nw_law hc hE.nw
def cS : Ctx := withLoops (ctxL l2) Tryz.prog 1000 lpS
def cI : Ctx := withLoops (ctxL l2) Tryz.prog 1000 lpI
theorem cS_ok {E : Env} (hE : Fok5 E.fn) : ∀ E' : Env, E'.fn = E.fn → CtxOk Tryz.prog E' cS ∧ CtxPc E' cS := fun E' h =>
  withLoops_ok (fun E2 h2 => c2' hE.toFok E2 (h2.trans h)) nm mixed (lp_law (E := E') (by rw [h]; exact hE) rfl rfl rfl)
theorem cI_ok {E : Env} (hE : Fok5 E.fn) : ∀ E' : Env, E'.fn = E.fn → CtxOk Tryz.prog E' cI ∧ CtxPc E' cI := fun E' h =>
  withLoops_ok (fun E2 h2 => c2' hE.toFok E2 (h2.trans h)) nm mixed (lp_law (E := E') (by rw [h]; exact hE) rfl rfl rfl)
def rpW : Rp := (false, [(false, [.float .f32])])
def rpQ : Rp := (true, [(false, [.float .f32]), (false, [.int .i64])])
def asCb : PC := [(.op (.ffin .f32) (.var 0) .nil, true)]
theorem t240 : treeIs rpQ (callQ Tryz.prog cS 1000 139 [.sc k32] (pcCb b0S)) CBs = true := by kernel_rfl
theorem t245 : treeIs rpW (callQ Tryz.prog cI 1000 117 [.sc k32] (pcCb b0I)) CBi = true := by kernel_rfl
theorem sj : ((Nat.ble (bldP [.sc k32] 0 0).j 1000 && undersF (bldP [.sc k32] 0 0).n asCb) && (CBs.under (bldP [.sc k32] 0 0).n && Nat.beq 2 (sizeR rpQ.2))) = true := by kernel_rfl
theorem ij : ((Nat.ble (bldP [.sc k32] 0 0).j 1000 && undersF (bldP [.sc k32] 0 0).n asCb) && (CBs.under (bldP [.sc k32] 0 0).n && Nat.beq 1 (sizeR rpW.2))) = true := by kernel_rfl
def cbU2 (ts : List Tm) : List Tm := [.nth 0 (.app 33 (listT ts)), .il 0]
def cbS : Sum := sumQ [.sc k32] asCb (fun ts => mkR rpQ (cbU2 ts)) (call (ctxL l2) Tryz.prog 1000 139)
def cbI : Sum := sumR [.sc k32] asCb rpW 1 33 (call (ctxL l2) Tryz.prog 1000 117)
theorem CBs_code {E : Env} : (CBs.den E).at_ 1 = .i 0 := by
  simp only [CBs, listT, Tm.den]
  split <;> rfl
theorem cbS_ok {E : Env} (hE : Fok5 E.fn) : SumOk Tryz.prog E 139 cbS :=
  sumV_ok (ctx := cS) (n := 1000) (N := 2) (T := CBs) (pcx := pcCb b0S) (cS_ok hE) nm mixed (andL sj) (by kernel_rfl) (fun E' _ hp => (pcCb_ok (hp _ (List.mem_cons_self ..))).1)
    (fun E' ts hfn _ hn hv => by
      refine ⟨rfl, fun i u hu => ?_⟩
      have e2 : CBs.den E' = CBs.den ⟨fun i => ((listT ts).den E).at_ i, E.fn⟩ := under_den (E' := ⟨fun i => ((listT ts).den E).at_ i, E.fn⟩) (n := (bldP [.sc k32] 0 0).n) (fun i hi => by
        rw [hn] at hi
        have ht : ts[i]? = some ts[i] := List.getElem?_eq_getElem hi
        rw [hv i _ ht]
        exact (listT_at ht).symm) hfn (andL (andR sj))
      match i, hu with
      | 0, hu =>
        simp only [cbU2, List.getElem?_cons_zero, Option.some.injEq] at hu
        subst hu
        simp only [Tm.den]
        rw [hE.cb, e2]
      | 1, hu =>
        simp only [cbU2, List.getElem?_cons_succ, List.getElem?_cons_zero, Option.some.injEq] at hu
        subst hu
        rw [CBs_code]; rfl
      | i + 2, hu => simp [cbU2] at hu) t240 (call_ok (c2 hE.toFok).1 (c2 hE.toFok).2 nm mixed 1000 139)
theorem cbI_ok {E : Env} (hE : Fok5 E.fn) : SumOk Tryz.prog E 117 cbI :=
  sumR3_ok (ctx := cI) (n := 1000) (D := CBs) (T := CBi) (pcx := pcCb b0I) (cI_ok hE) nm mixed hE.cb (andL ij) (andR ij) (fun E' _ hp => (pcCb_ok (hp _ (List.mem_cons_self ..))).2)
    (fun E' h hp i hi => by
      have : i = 0 := by omega
      subst this
      exact cb_same (by rw [h]; exact hE.up) (by rw [h]; exact hE.dn) (by rw [h]; exact hE.nw) (hp _ (List.mem_cons_self ..))) t245 (call_ok (c2 hE.toFok).1 (c2 hE.toFok).2 nm mixed 1000 117)
theorem cb_pc {E : Env} (hE : Fok5 E.fn) {f : Nat} {ps : List Pa} {ass : PC} {mk : List Tm → SV} : ∀ args m pc, PcOk E pc → Pcs E Res.pc (sumQ ps ass mk (call (ctxL l2) Tryz.prog 1000 f) args m pc) := fun args m pc hp =>
  sumQ_pc (fun args m pc hp => call_pc (c2 hE.toFok).2 1000 f args m pc hp) args m pc hp
end Go.Proofs.YtamljpeicecbjaaGreat.Leaf
