/- The contracts of reduced drops, for one to six pigments. No condition. -/
import Derived.Test.YtamljpeicecbjaaCs
import Derived.Test.YtamljpeicecbjaaSxGcd
import Derived.Test.YtamljpeicecbjaaSxAgr
set_option linter.unusedVariables false
set_option linter.unusedSimpArgs false
set_option maxRecDepth 100000
noncomputable section
namespace Go.Proofs.Ytamljpeicecbjaa.LeafP
open Go.Sx Leaf
def gS : List (Nat × LoopSpec) := [(1, Sgcd .i64 [.slot 0, .slot 1] 0)]
def plI : List Go.Sx.Place := [.slot 6, .slot 8, .part 15 0, .part 15 1, .part 15 2, .part 15 3, .part 15 4, .part 15 5, .cell 3 0, .cell 3 1, .cell 3 2, .cell 3 3, .cell 3 4, .cell 3 5]
def gI : List (Nat × LoopSpec) := [(7, { Sgcd .i16 plI 12 with keep := [.slot 15, .slot 16, .slot 5] })]
def cgS : Ctx := withLoops (ctxL l2) Try.prog 1000 gS
def cgI : Ctx := withLoops (ctxL ((51, call cxB Try.prog 1000 51) :: l2)) Try.prog 1000 gI
def cR : Ctx := ctxL ((143, call cgS Try.prog 1000 143) :: orL (ctxL l3) Try.prog 1000 l5)
def rpR : Rp := (true, [(true, d6), (false, [.int .i64])])
def paR (n : Nat) : List Pa := [.aggS n pgs t6, .agg d6]
def fD (n : Nat) : Nat → Nat → PC
  | 0, _ => []
  | m + 1, i => (.op .lei (.il 0) (.var (6 + 34 * n + i)), true) :: (.op .lei (.var (6 + 34 * n + i)) (.il 1000), true) :: ((match Nat.blt i n with | true => [] | false => [(.op .eqi (.var (6 + 34 * n + i)) (.il 0), true)]) ++ fD n m (i + 1))
def asR (n i : Nat) : PC := (.app (10 + n) (listT (vars (6 + 34 * n) 0)), true) :: (fD n 6 0 ++ [(.op .lti (.il 0) (.var (6 + 34 * n + i)), true)])
def oS (n i : Nat) : Out Res := callQ Try.prog cR 1000 58 (paR n) (asR n i)
def oI (n i : Nat) : Out Res := callQ Try.prog cgI 1000 59 (paR n) (asR n i)
def RP (n : Nat) : Tm := (treeT rpR (oS n 0)).getD .nil
def DsR : List (Nat × Tm) := (86, RP 6) :: (85, RP 5) :: (84, RP 4) :: (83, RP 3) :: (82, RP 2) :: (81, RP 1) :: Ds
def F1r : Nat → Sc → Sc := fun k c => if k = 70 then gcdF c else F1 k c
def FR : Nat → Sc → Sc := buildF F1r DsR
theorem ascR : defsAsc DsR 900 = true := by kernel_rfl
structure FokR (F : Nat → Sc → Sc) : Prop extends Fok F where
  rd : ∀ id D, (id, D) ∈ DsR → ∀ c, F id c = D.den ⟨fun i => c.at_ i, F⟩
  gc : ∀ c, F 70 c = gcdF c
theorem FokR_FR : FokR FR where
  defs := fun _ _ h c => buildF_def ascR (.tail _ (.tail _ (.tail _ (.tail _ (.tail _ (.tail _ h)))))) c
  rows := fun c => by
    have h : FR 900 = F1r 900 := buildF_base (by kernel_rfl)
    rw [h]; simp [F1r, F1]
  name := fun c => by
    have h : FR 0 = F1r 0 := buildF_base (by kernel_rfl)
    rw [h]; simp [F1r, F1]
  size := fun c => by
    have h : FR 1 = F1r 1 := buildF_base (by kernel_rfl)
    rw [h]; simp [F1r, F1]
  rd := fun _ _ h c => buildF_def ascR h c
  gc := fun c => by
    have h : FR 70 = F1r 70 := buildF_base (by kernel_rfl)
    rw [h]; simp [F1r]
theorem gS_law {F : Nat → Sc → Sc} (hE : FokR F) : ∀ k S, (k, S) ∈ gS → LoopLaw S F := by
  intro k S h
  simp only [gS, List.mem_cons, Prod.mk.injEq, List.not_mem_nil, or_false] at h
  obtain ⟨_, rfl⟩ := h
  exact gcd_law rfl hE.gc
theorem gI_law {F : Nat → Sc → Sc} (hE : FokR F) : ∀ k S, (k, S) ∈ gI → LoopLaw S F := by
  intro k S h
  simp only [gI, List.mem_cons, Prod.mk.injEq, List.not_mem_nil, or_false] at h
  obtain ⟨_, rfl⟩ := h
  exact LoopLaw.keep_ (gcd_law (k := .i16) (pl := plI) (m := 12) rfl hE.gc)
theorem cgS_ok {E : Env} (hE : FokR E.fn) : ∀ E' : Env, E'.fn = E.fn → CtxOk Try.prog E' cgS ∧ CtxPc E' cgS := fun E' h =>
  withLoops_ok (fun E2 h2 => c2' hE.toFok E2 (h2.trans h)) nm mixed (by rw [h]; exact gS_law hE)
theorem cR_ok {E : Env} (hE : FokR E.fn) : CtxOk Try.prog E cR ∧ CtxPc E cR :=
  ctxL_cons (cxB_okF hE.toFok) (call_ok (cgS_ok hE E rfl).1 (cgS_ok hE E rfl).2 nm mixed 1000 143) (call_pc (cgS_ok hE E rfl).2 1000 143)
theorem cR_ok' {E : Env} (hE : FokR E.fn) : ∀ E' : Env, E'.fn = E.fn → CtxOk Try.prog E' cR ∧ CtxPc E' cR := fun E' h => cR_ok (by rw [h]; exact hE)
theorem cgI_ok {E : Env} (hE : FokR E.fn) : ∀ E' : Env, E'.fn = E.fn → CtxOk Try.prog E' cgI ∧ CtxPc E' cgI := fun E' h =>
  withLoops_ok (fun E2 h2 => by
    have hF : Fok E2.fn := by rw [h2, h]; exact hE.toFok
    exact ctxL_cons (c2 hF) (call_ok (cxB_okF hF).1 (cxB_okF hF).2 nm mixed 1000 51) (call_pc (cxB_okF hF).2 1000 51)) nm mixed (by rw [h]; exact gI_law hE)
def elS (f : Nat) : Sum := call cR Try.prog 1000 f
def elI : Sum := call cgI Try.prog 1000 59
def rd1 (n i : Nat) (els : Sum) : Sum := sumR (paR n) (asR n i) rpR 7 (80 + n) els
theorem rl_1 : ((RP 1).under (bldP (paR 1) 0 0).n && Nat.beq 7 (sizeR rpR.2)) = true := by kernel_rfl
theorem rk_1_0 : (Nat.ble (bldP (paR 1) 0 0).j 1000 && undersF (bldP (paR 1) 0 0).n (asR 1 0)) = true := by kernel_rfl
theorem rs_1_0 : treeIs rpR (callQ Try.prog cR 1000 58 (paR 1) (asR 1 0)) (RP 1) = true := by kernel_rfl
theorem ra_1_0 : agreeH rpR (asR 1 0) 100000 [] (asR 1 0) (callQ Try.prog cR 1000 58 (paR 1) (asR 1 0)) (callQ Try.prog cgI 1000 59 (paR 1) (asR 1 0)) = true := by kernel_rfl
theorem rl_2 : ((RP 2).under (bldP (paR 2) 0 0).n && Nat.beq 7 (sizeR rpR.2)) = true := by kernel_rfl
theorem rk_2_0 : (Nat.ble (bldP (paR 2) 0 0).j 1000 && undersF (bldP (paR 2) 0 0).n (asR 2 0)) = true := by kernel_rfl
theorem rs_2_0 : treeIs rpR (callQ Try.prog cR 1000 58 (paR 2) (asR 2 0)) (RP 2) = true := by kernel_rfl
theorem ra_2_0 : agreeH rpR (asR 2 0) 100000 [] (asR 2 0) (callQ Try.prog cR 1000 58 (paR 2) (asR 2 0)) (callQ Try.prog cgI 1000 59 (paR 2) (asR 2 0)) = true := by kernel_rfl
theorem rk_2_1 : (Nat.ble (bldP (paR 2) 0 0).j 1000 && undersF (bldP (paR 2) 0 0).n (asR 2 1)) = true := by kernel_rfl
theorem rs_2_1 : treeIs rpR (callQ Try.prog cR 1000 58 (paR 2) (asR 2 1)) (RP 2) = true := by kernel_rfl
theorem ra_2_1 : agreeH rpR (asR 2 1) 100000 [] (asR 2 1) (callQ Try.prog cR 1000 58 (paR 2) (asR 2 1)) (callQ Try.prog cgI 1000 59 (paR 2) (asR 2 1)) = true := by kernel_rfl
theorem rl_3 : ((RP 3).under (bldP (paR 3) 0 0).n && Nat.beq 7 (sizeR rpR.2)) = true := by kernel_rfl
theorem rk_3_0 : (Nat.ble (bldP (paR 3) 0 0).j 1000 && undersF (bldP (paR 3) 0 0).n (asR 3 0)) = true := by kernel_rfl
theorem rs_3_0 : treeIs rpR (callQ Try.prog cR 1000 58 (paR 3) (asR 3 0)) (RP 3) = true := by kernel_rfl
theorem ra_3_0 : agreeH rpR (asR 3 0) 100000 [] (asR 3 0) (callQ Try.prog cR 1000 58 (paR 3) (asR 3 0)) (callQ Try.prog cgI 1000 59 (paR 3) (asR 3 0)) = true := by kernel_rfl
theorem rk_3_1 : (Nat.ble (bldP (paR 3) 0 0).j 1000 && undersF (bldP (paR 3) 0 0).n (asR 3 1)) = true := by kernel_rfl
theorem rs_3_1 : treeIs rpR (callQ Try.prog cR 1000 58 (paR 3) (asR 3 1)) (RP 3) = true := by kernel_rfl
theorem ra_3_1 : agreeH rpR (asR 3 1) 100000 [] (asR 3 1) (callQ Try.prog cR 1000 58 (paR 3) (asR 3 1)) (callQ Try.prog cgI 1000 59 (paR 3) (asR 3 1)) = true := by kernel_rfl
theorem rk_3_2 : (Nat.ble (bldP (paR 3) 0 0).j 1000 && undersF (bldP (paR 3) 0 0).n (asR 3 2)) = true := by kernel_rfl
theorem rs_3_2 : treeIs rpR (callQ Try.prog cR 1000 58 (paR 3) (asR 3 2)) (RP 3) = true := by kernel_rfl
theorem ra_3_2 : agreeH rpR (asR 3 2) 100000 [] (asR 3 2) (callQ Try.prog cR 1000 58 (paR 3) (asR 3 2)) (callQ Try.prog cgI 1000 59 (paR 3) (asR 3 2)) = true := by kernel_rfl
theorem rl_4 : ((RP 4).under (bldP (paR 4) 0 0).n && Nat.beq 7 (sizeR rpR.2)) = true := by kernel_rfl
theorem rk_4_0 : (Nat.ble (bldP (paR 4) 0 0).j 1000 && undersF (bldP (paR 4) 0 0).n (asR 4 0)) = true := by kernel_rfl
theorem rs_4_0 : treeIs rpR (callQ Try.prog cR 1000 58 (paR 4) (asR 4 0)) (RP 4) = true := by kernel_rfl
theorem ra_4_0 : agreeH rpR (asR 4 0) 100000 [] (asR 4 0) (callQ Try.prog cR 1000 58 (paR 4) (asR 4 0)) (callQ Try.prog cgI 1000 59 (paR 4) (asR 4 0)) = true := by kernel_rfl
theorem rk_4_1 : (Nat.ble (bldP (paR 4) 0 0).j 1000 && undersF (bldP (paR 4) 0 0).n (asR 4 1)) = true := by kernel_rfl
theorem rs_4_1 : treeIs rpR (callQ Try.prog cR 1000 58 (paR 4) (asR 4 1)) (RP 4) = true := by kernel_rfl
theorem ra_4_1 : agreeH rpR (asR 4 1) 100000 [] (asR 4 1) (callQ Try.prog cR 1000 58 (paR 4) (asR 4 1)) (callQ Try.prog cgI 1000 59 (paR 4) (asR 4 1)) = true := by kernel_rfl
theorem rk_4_2 : (Nat.ble (bldP (paR 4) 0 0).j 1000 && undersF (bldP (paR 4) 0 0).n (asR 4 2)) = true := by kernel_rfl
theorem rs_4_2 : treeIs rpR (callQ Try.prog cR 1000 58 (paR 4) (asR 4 2)) (RP 4) = true := by kernel_rfl
theorem ra_4_2 : agreeH rpR (asR 4 2) 100000 [] (asR 4 2) (callQ Try.prog cR 1000 58 (paR 4) (asR 4 2)) (callQ Try.prog cgI 1000 59 (paR 4) (asR 4 2)) = true := by kernel_rfl
theorem rk_4_3 : (Nat.ble (bldP (paR 4) 0 0).j 1000 && undersF (bldP (paR 4) 0 0).n (asR 4 3)) = true := by kernel_rfl
theorem rs_4_3 : treeIs rpR (callQ Try.prog cR 1000 58 (paR 4) (asR 4 3)) (RP 4) = true := by kernel_rfl
theorem ra_4_3 : agreeH rpR (asR 4 3) 100000 [] (asR 4 3) (callQ Try.prog cR 1000 58 (paR 4) (asR 4 3)) (callQ Try.prog cgI 1000 59 (paR 4) (asR 4 3)) = true := by kernel_rfl
theorem rl_5 : ((RP 5).under (bldP (paR 5) 0 0).n && Nat.beq 7 (sizeR rpR.2)) = true := by kernel_rfl
theorem rk_5_0 : (Nat.ble (bldP (paR 5) 0 0).j 1000 && undersF (bldP (paR 5) 0 0).n (asR 5 0)) = true := by kernel_rfl
theorem rs_5_0 : treeIs rpR (callQ Try.prog cR 1000 58 (paR 5) (asR 5 0)) (RP 5) = true := by kernel_rfl
theorem ra_5_0 : agreeH rpR (asR 5 0) 100000 [] (asR 5 0) (callQ Try.prog cR 1000 58 (paR 5) (asR 5 0)) (callQ Try.prog cgI 1000 59 (paR 5) (asR 5 0)) = true := by kernel_rfl
theorem rk_5_1 : (Nat.ble (bldP (paR 5) 0 0).j 1000 && undersF (bldP (paR 5) 0 0).n (asR 5 1)) = true := by kernel_rfl
theorem rs_5_1 : treeIs rpR (callQ Try.prog cR 1000 58 (paR 5) (asR 5 1)) (RP 5) = true := by kernel_rfl
theorem ra_5_1 : agreeH rpR (asR 5 1) 100000 [] (asR 5 1) (callQ Try.prog cR 1000 58 (paR 5) (asR 5 1)) (callQ Try.prog cgI 1000 59 (paR 5) (asR 5 1)) = true := by kernel_rfl
theorem rk_5_2 : (Nat.ble (bldP (paR 5) 0 0).j 1000 && undersF (bldP (paR 5) 0 0).n (asR 5 2)) = true := by kernel_rfl
theorem rs_5_2 : treeIs rpR (callQ Try.prog cR 1000 58 (paR 5) (asR 5 2)) (RP 5) = true := by kernel_rfl
theorem ra_5_2 : agreeH rpR (asR 5 2) 100000 [] (asR 5 2) (callQ Try.prog cR 1000 58 (paR 5) (asR 5 2)) (callQ Try.prog cgI 1000 59 (paR 5) (asR 5 2)) = true := by kernel_rfl
theorem rk_5_3 : (Nat.ble (bldP (paR 5) 0 0).j 1000 && undersF (bldP (paR 5) 0 0).n (asR 5 3)) = true := by kernel_rfl
theorem rs_5_3 : treeIs rpR (callQ Try.prog cR 1000 58 (paR 5) (asR 5 3)) (RP 5) = true := by kernel_rfl
theorem ra_5_3 : agreeH rpR (asR 5 3) 100000 [] (asR 5 3) (callQ Try.prog cR 1000 58 (paR 5) (asR 5 3)) (callQ Try.prog cgI 1000 59 (paR 5) (asR 5 3)) = true := by kernel_rfl
theorem rk_5_4 : (Nat.ble (bldP (paR 5) 0 0).j 1000 && undersF (bldP (paR 5) 0 0).n (asR 5 4)) = true := by kernel_rfl
theorem rs_5_4 : treeIs rpR (callQ Try.prog cR 1000 58 (paR 5) (asR 5 4)) (RP 5) = true := by kernel_rfl
theorem ra_5_4 : agreeH rpR (asR 5 4) 100000 [] (asR 5 4) (callQ Try.prog cR 1000 58 (paR 5) (asR 5 4)) (callQ Try.prog cgI 1000 59 (paR 5) (asR 5 4)) = true := by kernel_rfl
theorem rl_6 : ((RP 6).under (bldP (paR 6) 0 0).n && Nat.beq 7 (sizeR rpR.2)) = true := by kernel_rfl
theorem rk_6_0 : (Nat.ble (bldP (paR 6) 0 0).j 1000 && undersF (bldP (paR 6) 0 0).n (asR 6 0)) = true := by kernel_rfl
theorem rs_6_0 : treeIs rpR (callQ Try.prog cR 1000 58 (paR 6) (asR 6 0)) (RP 6) = true := by kernel_rfl
theorem ra_6_0 : agreeH rpR (asR 6 0) 100000 [] (asR 6 0) (callQ Try.prog cR 1000 58 (paR 6) (asR 6 0)) (callQ Try.prog cgI 1000 59 (paR 6) (asR 6 0)) = true := by kernel_rfl
theorem rk_6_1 : (Nat.ble (bldP (paR 6) 0 0).j 1000 && undersF (bldP (paR 6) 0 0).n (asR 6 1)) = true := by kernel_rfl
theorem rs_6_1 : treeIs rpR (callQ Try.prog cR 1000 58 (paR 6) (asR 6 1)) (RP 6) = true := by kernel_rfl
theorem ra_6_1 : agreeH rpR (asR 6 1) 100000 [] (asR 6 1) (callQ Try.prog cR 1000 58 (paR 6) (asR 6 1)) (callQ Try.prog cgI 1000 59 (paR 6) (asR 6 1)) = true := by kernel_rfl
theorem rk_6_2 : (Nat.ble (bldP (paR 6) 0 0).j 1000 && undersF (bldP (paR 6) 0 0).n (asR 6 2)) = true := by kernel_rfl
theorem rs_6_2 : treeIs rpR (callQ Try.prog cR 1000 58 (paR 6) (asR 6 2)) (RP 6) = true := by kernel_rfl
theorem ra_6_2 : agreeH rpR (asR 6 2) 100000 [] (asR 6 2) (callQ Try.prog cR 1000 58 (paR 6) (asR 6 2)) (callQ Try.prog cgI 1000 59 (paR 6) (asR 6 2)) = true := by kernel_rfl
theorem rk_6_3 : (Nat.ble (bldP (paR 6) 0 0).j 1000 && undersF (bldP (paR 6) 0 0).n (asR 6 3)) = true := by kernel_rfl
theorem rs_6_3 : treeIs rpR (callQ Try.prog cR 1000 58 (paR 6) (asR 6 3)) (RP 6) = true := by kernel_rfl
theorem ra_6_3 : agreeH rpR (asR 6 3) 100000 [] (asR 6 3) (callQ Try.prog cR 1000 58 (paR 6) (asR 6 3)) (callQ Try.prog cgI 1000 59 (paR 6) (asR 6 3)) = true := by kernel_rfl
theorem rk_6_4 : (Nat.ble (bldP (paR 6) 0 0).j 1000 && undersF (bldP (paR 6) 0 0).n (asR 6 4)) = true := by kernel_rfl
theorem rs_6_4 : treeIs rpR (callQ Try.prog cR 1000 58 (paR 6) (asR 6 4)) (RP 6) = true := by kernel_rfl
theorem ra_6_4 : agreeH rpR (asR 6 4) 100000 [] (asR 6 4) (callQ Try.prog cR 1000 58 (paR 6) (asR 6 4)) (callQ Try.prog cgI 1000 59 (paR 6) (asR 6 4)) = true := by kernel_rfl
theorem rk_6_5 : (Nat.ble (bldP (paR 6) 0 0).j 1000 && undersF (bldP (paR 6) 0 0).n (asR 6 5)) = true := by kernel_rfl
theorem rs_6_5 : treeIs rpR (callQ Try.prog cR 1000 58 (paR 6) (asR 6 5)) (RP 6) = true := by kernel_rfl
theorem ra_6_5 : agreeH rpR (asR 6 5) 100000 [] (asR 6 5) (callQ Try.prog cR 1000 58 (paR 6) (asR 6 5)) (callQ Try.prog cgI 1000 59 (paR 6) (asR 6 5)) = true := by kernel_rfl
def rdS : Sum := rd1 1 0 (rd1 2 0 (rd1 2 1 (rd1 3 0 (rd1 3 1 (rd1 3 2 (rd1 4 0 (rd1 4 1 (rd1 4 2 (rd1 4 3 (rd1 5 0 (rd1 5 1 (rd1 5 2 (rd1 5 3 (rd1 5 4 (rd1 6 0 (rd1 6 1 (rd1 6 2 (rd1 6 3 (rd1 6 4 (rd1 6 5 (elS 58)))))))))))))))))))))
def rdI : Sum := rd1 1 0 (rd1 2 0 (rd1 2 1 (rd1 3 0 (rd1 3 1 (rd1 3 2 (rd1 4 0 (rd1 4 1 (rd1 4 2 (rd1 4 3 (rd1 5 0 (rd1 5 1 (rd1 5 2 (rd1 5 3 (rd1 5 4 (rd1 6 0 (rd1 6 1 (rd1 6 2 (rd1 6 3 (rd1 6 4 (rd1 6 5 (elI)))))))))))))))))))))
theorem dR_1 {E : Env} (hE : FokR E.fn) : ∀ c, E.fn (80 + 1) c = (RP 1).den ⟨fun i => c.at_ i, E.fn⟩ := hE.rd 81 (RP 1) (show (81, RP 1) ∈ DsR from .tail _ (.tail _ (.tail _ (.tail _ (.tail _ (.head _))))))
theorem dR_2 {E : Env} (hE : FokR E.fn) : ∀ c, E.fn (80 + 2) c = (RP 2).den ⟨fun i => c.at_ i, E.fn⟩ := hE.rd 82 (RP 2) (show (82, RP 2) ∈ DsR from .tail _ (.tail _ (.tail _ (.tail _ (.head _)))))
theorem dR_3 {E : Env} (hE : FokR E.fn) : ∀ c, E.fn (80 + 3) c = (RP 3).den ⟨fun i => c.at_ i, E.fn⟩ := hE.rd 83 (RP 3) (show (83, RP 3) ∈ DsR from .tail _ (.tail _ (.tail _ (.head _))))
theorem dR_4 {E : Env} (hE : FokR E.fn) : ∀ c, E.fn (80 + 4) c = (RP 4).den ⟨fun i => c.at_ i, E.fn⟩ := hE.rd 84 (RP 4) (show (84, RP 4) ∈ DsR from .tail _ (.tail _ (.head _)))
theorem dR_5 {E : Env} (hE : FokR E.fn) : ∀ c, E.fn (80 + 5) c = (RP 5).den ⟨fun i => c.at_ i, E.fn⟩ := hE.rd 85 (RP 5) (show (85, RP 5) ∈ DsR from .tail _ (.head _))
theorem dR_6 {E : Env} (hE : FokR E.fn) : ∀ c, E.fn (80 + 6) c = (RP 6).den ⟨fun i => c.at_ i, E.fn⟩ := hE.rd 86 (RP 6) (show (86, RP 6) ∈ DsR from .head _)
theorem rdS_ok {E : Env} (hE : FokR E.fn) : SumOk Try.prog E 58 rdS := by
  have h : SumOk Try.prog E 58 (elS 58) := call_ok (cR_ok hE).1 (cR_ok hE).2 nm mixed 1000 58
  replace h := sumR_ok (ctx := cR) (n := 1000) (D := RP 6) (id := 80 + 6) (N := 7) (pcx := asR 6 5) (cR_ok' hE) nm mixed (dR_6 hE) rk_6_5 rl_6 (fun _ _ hp => hp) rs_6_5 h
  replace h := sumR_ok (ctx := cR) (n := 1000) (D := RP 6) (id := 80 + 6) (N := 7) (pcx := asR 6 4) (cR_ok' hE) nm mixed (dR_6 hE) rk_6_4 rl_6 (fun _ _ hp => hp) rs_6_4 h
  replace h := sumR_ok (ctx := cR) (n := 1000) (D := RP 6) (id := 80 + 6) (N := 7) (pcx := asR 6 3) (cR_ok' hE) nm mixed (dR_6 hE) rk_6_3 rl_6 (fun _ _ hp => hp) rs_6_3 h
  replace h := sumR_ok (ctx := cR) (n := 1000) (D := RP 6) (id := 80 + 6) (N := 7) (pcx := asR 6 2) (cR_ok' hE) nm mixed (dR_6 hE) rk_6_2 rl_6 (fun _ _ hp => hp) rs_6_2 h
  replace h := sumR_ok (ctx := cR) (n := 1000) (D := RP 6) (id := 80 + 6) (N := 7) (pcx := asR 6 1) (cR_ok' hE) nm mixed (dR_6 hE) rk_6_1 rl_6 (fun _ _ hp => hp) rs_6_1 h
  replace h := sumR_ok (ctx := cR) (n := 1000) (D := RP 6) (id := 80 + 6) (N := 7) (pcx := asR 6 0) (cR_ok' hE) nm mixed (dR_6 hE) rk_6_0 rl_6 (fun _ _ hp => hp) rs_6_0 h
  replace h := sumR_ok (ctx := cR) (n := 1000) (D := RP 5) (id := 80 + 5) (N := 7) (pcx := asR 5 4) (cR_ok' hE) nm mixed (dR_5 hE) rk_5_4 rl_5 (fun _ _ hp => hp) rs_5_4 h
  replace h := sumR_ok (ctx := cR) (n := 1000) (D := RP 5) (id := 80 + 5) (N := 7) (pcx := asR 5 3) (cR_ok' hE) nm mixed (dR_5 hE) rk_5_3 rl_5 (fun _ _ hp => hp) rs_5_3 h
  replace h := sumR_ok (ctx := cR) (n := 1000) (D := RP 5) (id := 80 + 5) (N := 7) (pcx := asR 5 2) (cR_ok' hE) nm mixed (dR_5 hE) rk_5_2 rl_5 (fun _ _ hp => hp) rs_5_2 h
  replace h := sumR_ok (ctx := cR) (n := 1000) (D := RP 5) (id := 80 + 5) (N := 7) (pcx := asR 5 1) (cR_ok' hE) nm mixed (dR_5 hE) rk_5_1 rl_5 (fun _ _ hp => hp) rs_5_1 h
  replace h := sumR_ok (ctx := cR) (n := 1000) (D := RP 5) (id := 80 + 5) (N := 7) (pcx := asR 5 0) (cR_ok' hE) nm mixed (dR_5 hE) rk_5_0 rl_5 (fun _ _ hp => hp) rs_5_0 h
  replace h := sumR_ok (ctx := cR) (n := 1000) (D := RP 4) (id := 80 + 4) (N := 7) (pcx := asR 4 3) (cR_ok' hE) nm mixed (dR_4 hE) rk_4_3 rl_4 (fun _ _ hp => hp) rs_4_3 h
  replace h := sumR_ok (ctx := cR) (n := 1000) (D := RP 4) (id := 80 + 4) (N := 7) (pcx := asR 4 2) (cR_ok' hE) nm mixed (dR_4 hE) rk_4_2 rl_4 (fun _ _ hp => hp) rs_4_2 h
  replace h := sumR_ok (ctx := cR) (n := 1000) (D := RP 4) (id := 80 + 4) (N := 7) (pcx := asR 4 1) (cR_ok' hE) nm mixed (dR_4 hE) rk_4_1 rl_4 (fun _ _ hp => hp) rs_4_1 h
  replace h := sumR_ok (ctx := cR) (n := 1000) (D := RP 4) (id := 80 + 4) (N := 7) (pcx := asR 4 0) (cR_ok' hE) nm mixed (dR_4 hE) rk_4_0 rl_4 (fun _ _ hp => hp) rs_4_0 h
  replace h := sumR_ok (ctx := cR) (n := 1000) (D := RP 3) (id := 80 + 3) (N := 7) (pcx := asR 3 2) (cR_ok' hE) nm mixed (dR_3 hE) rk_3_2 rl_3 (fun _ _ hp => hp) rs_3_2 h
  replace h := sumR_ok (ctx := cR) (n := 1000) (D := RP 3) (id := 80 + 3) (N := 7) (pcx := asR 3 1) (cR_ok' hE) nm mixed (dR_3 hE) rk_3_1 rl_3 (fun _ _ hp => hp) rs_3_1 h
  replace h := sumR_ok (ctx := cR) (n := 1000) (D := RP 3) (id := 80 + 3) (N := 7) (pcx := asR 3 0) (cR_ok' hE) nm mixed (dR_3 hE) rk_3_0 rl_3 (fun _ _ hp => hp) rs_3_0 h
  replace h := sumR_ok (ctx := cR) (n := 1000) (D := RP 2) (id := 80 + 2) (N := 7) (pcx := asR 2 1) (cR_ok' hE) nm mixed (dR_2 hE) rk_2_1 rl_2 (fun _ _ hp => hp) rs_2_1 h
  replace h := sumR_ok (ctx := cR) (n := 1000) (D := RP 2) (id := 80 + 2) (N := 7) (pcx := asR 2 0) (cR_ok' hE) nm mixed (dR_2 hE) rk_2_0 rl_2 (fun _ _ hp => hp) rs_2_0 h
  replace h := sumR_ok (ctx := cR) (n := 1000) (D := RP 1) (id := 80 + 1) (N := 7) (pcx := asR 1 0) (cR_ok' hE) nm mixed (dR_1 hE) rk_1_0 rl_1 (fun _ _ hp => hp) rs_1_0 h
  exact h
theorem rdI_ok {E : Env} (hE : FokR E.fn) : SumOk Try.prog E 59 rdI := by
  have h : SumOk Try.prog E 59 elI := call_ok (cgI_ok hE E rfl).1 (cgI_ok hE E rfl).2 nm mixed 1000 59
  replace h := sumH_ok (ctx := cR) (ctx' := cgI) (g := 58) (ps := paR 6) (n := 1000) (D := RP 6) (id := 80 + 6) (N := 7) (pcx := asR 6 5) (ass := asR 6 5) (cgI_ok hE) nm mixed (dR_6 hE) rk_6_5 rl_6 (fun _ _ hp => hp) rs_6_5 ra_6_5 h
  replace h := sumH_ok (ctx := cR) (ctx' := cgI) (g := 58) (ps := paR 6) (n := 1000) (D := RP 6) (id := 80 + 6) (N := 7) (pcx := asR 6 4) (ass := asR 6 4) (cgI_ok hE) nm mixed (dR_6 hE) rk_6_4 rl_6 (fun _ _ hp => hp) rs_6_4 ra_6_4 h
  replace h := sumH_ok (ctx := cR) (ctx' := cgI) (g := 58) (ps := paR 6) (n := 1000) (D := RP 6) (id := 80 + 6) (N := 7) (pcx := asR 6 3) (ass := asR 6 3) (cgI_ok hE) nm mixed (dR_6 hE) rk_6_3 rl_6 (fun _ _ hp => hp) rs_6_3 ra_6_3 h
  replace h := sumH_ok (ctx := cR) (ctx' := cgI) (g := 58) (ps := paR 6) (n := 1000) (D := RP 6) (id := 80 + 6) (N := 7) (pcx := asR 6 2) (ass := asR 6 2) (cgI_ok hE) nm mixed (dR_6 hE) rk_6_2 rl_6 (fun _ _ hp => hp) rs_6_2 ra_6_2 h
  replace h := sumH_ok (ctx := cR) (ctx' := cgI) (g := 58) (ps := paR 6) (n := 1000) (D := RP 6) (id := 80 + 6) (N := 7) (pcx := asR 6 1) (ass := asR 6 1) (cgI_ok hE) nm mixed (dR_6 hE) rk_6_1 rl_6 (fun _ _ hp => hp) rs_6_1 ra_6_1 h
  replace h := sumH_ok (ctx := cR) (ctx' := cgI) (g := 58) (ps := paR 6) (n := 1000) (D := RP 6) (id := 80 + 6) (N := 7) (pcx := asR 6 0) (ass := asR 6 0) (cgI_ok hE) nm mixed (dR_6 hE) rk_6_0 rl_6 (fun _ _ hp => hp) rs_6_0 ra_6_0 h
  replace h := sumH_ok (ctx := cR) (ctx' := cgI) (g := 58) (ps := paR 5) (n := 1000) (D := RP 5) (id := 80 + 5) (N := 7) (pcx := asR 5 4) (ass := asR 5 4) (cgI_ok hE) nm mixed (dR_5 hE) rk_5_4 rl_5 (fun _ _ hp => hp) rs_5_4 ra_5_4 h
  replace h := sumH_ok (ctx := cR) (ctx' := cgI) (g := 58) (ps := paR 5) (n := 1000) (D := RP 5) (id := 80 + 5) (N := 7) (pcx := asR 5 3) (ass := asR 5 3) (cgI_ok hE) nm mixed (dR_5 hE) rk_5_3 rl_5 (fun _ _ hp => hp) rs_5_3 ra_5_3 h
  replace h := sumH_ok (ctx := cR) (ctx' := cgI) (g := 58) (ps := paR 5) (n := 1000) (D := RP 5) (id := 80 + 5) (N := 7) (pcx := asR 5 2) (ass := asR 5 2) (cgI_ok hE) nm mixed (dR_5 hE) rk_5_2 rl_5 (fun _ _ hp => hp) rs_5_2 ra_5_2 h
  replace h := sumH_ok (ctx := cR) (ctx' := cgI) (g := 58) (ps := paR 5) (n := 1000) (D := RP 5) (id := 80 + 5) (N := 7) (pcx := asR 5 1) (ass := asR 5 1) (cgI_ok hE) nm mixed (dR_5 hE) rk_5_1 rl_5 (fun _ _ hp => hp) rs_5_1 ra_5_1 h
  replace h := sumH_ok (ctx := cR) (ctx' := cgI) (g := 58) (ps := paR 5) (n := 1000) (D := RP 5) (id := 80 + 5) (N := 7) (pcx := asR 5 0) (ass := asR 5 0) (cgI_ok hE) nm mixed (dR_5 hE) rk_5_0 rl_5 (fun _ _ hp => hp) rs_5_0 ra_5_0 h
  replace h := sumH_ok (ctx := cR) (ctx' := cgI) (g := 58) (ps := paR 4) (n := 1000) (D := RP 4) (id := 80 + 4) (N := 7) (pcx := asR 4 3) (ass := asR 4 3) (cgI_ok hE) nm mixed (dR_4 hE) rk_4_3 rl_4 (fun _ _ hp => hp) rs_4_3 ra_4_3 h
  replace h := sumH_ok (ctx := cR) (ctx' := cgI) (g := 58) (ps := paR 4) (n := 1000) (D := RP 4) (id := 80 + 4) (N := 7) (pcx := asR 4 2) (ass := asR 4 2) (cgI_ok hE) nm mixed (dR_4 hE) rk_4_2 rl_4 (fun _ _ hp => hp) rs_4_2 ra_4_2 h
  replace h := sumH_ok (ctx := cR) (ctx' := cgI) (g := 58) (ps := paR 4) (n := 1000) (D := RP 4) (id := 80 + 4) (N := 7) (pcx := asR 4 1) (ass := asR 4 1) (cgI_ok hE) nm mixed (dR_4 hE) rk_4_1 rl_4 (fun _ _ hp => hp) rs_4_1 ra_4_1 h
  replace h := sumH_ok (ctx := cR) (ctx' := cgI) (g := 58) (ps := paR 4) (n := 1000) (D := RP 4) (id := 80 + 4) (N := 7) (pcx := asR 4 0) (ass := asR 4 0) (cgI_ok hE) nm mixed (dR_4 hE) rk_4_0 rl_4 (fun _ _ hp => hp) rs_4_0 ra_4_0 h
  replace h := sumH_ok (ctx := cR) (ctx' := cgI) (g := 58) (ps := paR 3) (n := 1000) (D := RP 3) (id := 80 + 3) (N := 7) (pcx := asR 3 2) (ass := asR 3 2) (cgI_ok hE) nm mixed (dR_3 hE) rk_3_2 rl_3 (fun _ _ hp => hp) rs_3_2 ra_3_2 h
  replace h := sumH_ok (ctx := cR) (ctx' := cgI) (g := 58) (ps := paR 3) (n := 1000) (D := RP 3) (id := 80 + 3) (N := 7) (pcx := asR 3 1) (ass := asR 3 1) (cgI_ok hE) nm mixed (dR_3 hE) rk_3_1 rl_3 (fun _ _ hp => hp) rs_3_1 ra_3_1 h
  replace h := sumH_ok (ctx := cR) (ctx' := cgI) (g := 58) (ps := paR 3) (n := 1000) (D := RP 3) (id := 80 + 3) (N := 7) (pcx := asR 3 0) (ass := asR 3 0) (cgI_ok hE) nm mixed (dR_3 hE) rk_3_0 rl_3 (fun _ _ hp => hp) rs_3_0 ra_3_0 h
  replace h := sumH_ok (ctx := cR) (ctx' := cgI) (g := 58) (ps := paR 2) (n := 1000) (D := RP 2) (id := 80 + 2) (N := 7) (pcx := asR 2 1) (ass := asR 2 1) (cgI_ok hE) nm mixed (dR_2 hE) rk_2_1 rl_2 (fun _ _ hp => hp) rs_2_1 ra_2_1 h
  replace h := sumH_ok (ctx := cR) (ctx' := cgI) (g := 58) (ps := paR 2) (n := 1000) (D := RP 2) (id := 80 + 2) (N := 7) (pcx := asR 2 0) (ass := asR 2 0) (cgI_ok hE) nm mixed (dR_2 hE) rk_2_0 rl_2 (fun _ _ hp => hp) rs_2_0 ra_2_0 h
  replace h := sumH_ok (ctx := cR) (ctx' := cgI) (g := 58) (ps := paR 1) (n := 1000) (D := RP 1) (id := 80 + 1) (N := 7) (pcx := asR 1 0) (ass := asR 1 0) (cgI_ok hE) nm mixed (dR_1 hE) rk_1_0 rl_1 (fun _ _ hp => hp) rs_1_0 ra_1_0 h
  exact h
theorem rdS_pc {E : Env} (hE : FokR E.fn) : ∀ args m pc, PcOk E pc → Pcs E Res.pc (rdS args m pc) := sumQ_pc (sumQ_pc (sumQ_pc (sumQ_pc (sumQ_pc (sumQ_pc (sumQ_pc (sumQ_pc (sumQ_pc (sumQ_pc (sumQ_pc (sumQ_pc (sumQ_pc (sumQ_pc (sumQ_pc (sumQ_pc (sumQ_pc (sumQ_pc (sumQ_pc (sumQ_pc (sumQ_pc (call_pc (cR_ok hE).2 1000 58)))))))))))))))))))))
theorem rdI_pc {E : Env} (hE : FokR E.fn) : ∀ args m pc, PcOk E pc → Pcs E Res.pc (rdI args m pc) := sumQ_pc (sumQ_pc (sumQ_pc (sumQ_pc (sumQ_pc (sumQ_pc (sumQ_pc (sumQ_pc (sumQ_pc (sumQ_pc (sumQ_pc (sumQ_pc (sumQ_pc (sumQ_pc (sumQ_pc (sumQ_pc (sumQ_pc (sumQ_pc (sumQ_pc (sumQ_pc (sumQ_pc (call_pc (cgI_ok hE E rfl).2 1000 59)))))))))))))))))))))
def cxB : Ctx := ctxL ((58, rdS) :: (59, rdI) :: orL (ctxL l3) Try.prog 1000 l5)
theorem cxB_ok : ∀ E : Env, E.fn = FR → CtxOk Try.prog E cxB ∧ CtxPc E cxB := fun E hE => by
  have h : FokR E.fn := by rw [hE]; exact FokR_FR
  exact ctxL_cons (ctxL_cons (cxB_okF h.toFok) (rdI_ok h) (rdI_pc h)) (rdS_ok h) (rdS_pc h)
theorem F2_900 : ∀ c, FR 900 c = F900 c := FokR_FR.rows
end Go.Proofs.Ytamljpeicecbjaa.LeafP
