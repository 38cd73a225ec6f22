/- The contracts of differences under lights, for one to eight lights. No condition. -/
import Derived.Test.YtamljpeicecbjaaFy
import Derived.Test.YtamljpeicecbjaaSxFresh
set_option linter.unusedVariables false
set_option linter.unusedSimpArgs false
set_option maxRecDepth 100000
noncomputable section
namespace Go.Proofs.Ytamljpeicecbjaa.Leaf
open Go.Sx
def paU (n : Nat) : List Pa := [.sl n f16, .agg f16, .agg f16]
def UU (n : Nat) : Tm := (treeL ⟨k32, 22, n, false⟩ (callQ Try.prog cxW 1000 96 (paU n) [])).getD .nil
def DsU : List (Nat × Tm) := (58, UU 8) :: (57, UU 7) :: (56, UU 6) :: (55, UU 5) :: (54, UU 4) :: (53, UU 3) :: (52, UU 2) :: (51, UU 1) :: Ds6
def FU : Nat → Sc → Sc := buildF F1c DsU
theorem ascU : defsAsc DsU 900 = true := by kernel_rfl
structure FokU (F : Nat → Sc → Sc) : Prop extends Fok5 F where
  uu : ∀ id D, (id, D) ∈ DsU → ∀ c, F id c = D.den ⟨fun i => c.at_ i, F⟩
theorem inU {p : Nat × Tm} (h : p ∈ Ds6) : p ∈ DsU := .tail _ (.tail _ (.tail _ (.tail _ (.tail _ (.tail _ (.tail _ (.tail _ h)))))))
theorem FokU_FU : FokU FU where
  defs := fun _ _ h c => buildF_def ascU (inU (.tail _ (.tail _ (.tail _ h)))) c
  rows := fun c => by
    have h : FU 900 = F1c 900 := buildF_base (by kernel_rfl)
    rw [h]; simp [F1c, F1]
  name := fun c => by
    have h : FU 0 = F1c 0 := buildF_base (by kernel_rfl)
    rw [h]; simp [F1c, F1]
  size := fun c => by
    have h : FU 1 = F1c 1 := buildF_base (by kernel_rfl)
    rw [h]; simp [F1c, F1]
  up := fun c => by
    have h : FU 30 = F1c 30 := buildF_base (by kernel_rfl)
    rw [h]; simp [F1c]
  dn := fun c => by
    have h : FU 31 = F1c 31 := buildF_base (by kernel_rfl)
    rw [h]; simp [F1c]
  nw := fun c => by
    have h : FU 32 = F1c 32 := buildF_base (by kernel_rfl)
    rw [h]; simp [F1c]
  cb := fun c => buildF_def ascU (inU (show (33, CBs) ∈ Ds6 from .tail _ (.tail _ (.head _)))) c
  lk := fun c => buildF_def ascU (inU (show (34, LkT) ∈ Ds6 from .tail _ (.head _))) c
  un := fun c => buildF_def ascU (inU (show (35, UnT) ∈ Ds6 from .head _)) c
  uu := fun _ _ h c => buildF_def ascU h c
theorem cxW_ok2 {E : Env} (hE : Fok5 E.fn) : ∀ E' : Env, E'.fn = E.fn → CtxOk Try.prog E' cxW ∧ CtxPc E' cxW := fun E' h => cxW_okF (by rw [h]; exact hE)
def uuS (n : Nat) : Sum := sumN ⟨k32, 22, n, false⟩ (50 + n) (paU n) (call cxW Try.prog 1000 96)
def uuI (n : Nat) : Sum := sumN ⟨k32, 22, n, true⟩ (50 + n) (paU n) (call cxW Try.prog 1000 97)
theorem us_1 : treeIsL ⟨k32, 22, 1, false⟩ (callQ Try.prog cxW 1000 96 (paU 1) []) (UU 1) = true := by kernel_rfl
theorem ui_1 : treeIsL ⟨k32, 22, 1, true⟩ (callQ Try.prog cxW 1000 97 (paU 1) []) (UU 1) = true := by kernel_rfl
theorem uj_1 : (Nat.ble (bldP (paU 1) 0 0).j 1000 && (UU 1).under (bldP (paU 1) 0 0).n) = true := by kernel_rfl
theorem us_2 : treeIsL ⟨k32, 22, 2, false⟩ (callQ Try.prog cxW 1000 96 (paU 2) []) (UU 2) = true := by kernel_rfl
theorem ui_2 : treeIsL ⟨k32, 22, 2, true⟩ (callQ Try.prog cxW 1000 97 (paU 2) []) (UU 2) = true := by kernel_rfl
theorem uj_2 : (Nat.ble (bldP (paU 2) 0 0).j 1000 && (UU 2).under (bldP (paU 2) 0 0).n) = true := by kernel_rfl
theorem us_3 : treeIsL ⟨k32, 22, 3, false⟩ (callQ Try.prog cxW 1000 96 (paU 3) []) (UU 3) = true := by kernel_rfl
theorem ui_3 : treeIsL ⟨k32, 22, 3, true⟩ (callQ Try.prog cxW 1000 97 (paU 3) []) (UU 3) = true := by kernel_rfl
theorem uj_3 : (Nat.ble (bldP (paU 3) 0 0).j 1000 && (UU 3).under (bldP (paU 3) 0 0).n) = true := by kernel_rfl
theorem us_4 : treeIsL ⟨k32, 22, 4, false⟩ (callQ Try.prog cxW 1000 96 (paU 4) []) (UU 4) = true := by kernel_rfl
theorem ui_4 : treeIsL ⟨k32, 22, 4, true⟩ (callQ Try.prog cxW 1000 97 (paU 4) []) (UU 4) = true := by kernel_rfl
theorem uj_4 : (Nat.ble (bldP (paU 4) 0 0).j 1000 && (UU 4).under (bldP (paU 4) 0 0).n) = true := by kernel_rfl
theorem us_5 : treeIsL ⟨k32, 22, 5, false⟩ (callQ Try.prog cxW 1000 96 (paU 5) []) (UU 5) = true := by kernel_rfl
theorem ui_5 : treeIsL ⟨k32, 22, 5, true⟩ (callQ Try.prog cxW 1000 97 (paU 5) []) (UU 5) = true := by kernel_rfl
theorem uj_5 : (Nat.ble (bldP (paU 5) 0 0).j 1000 && (UU 5).under (bldP (paU 5) 0 0).n) = true := by kernel_rfl
theorem us_6 : treeIsL ⟨k32, 22, 6, false⟩ (callQ Try.prog cxW 1000 96 (paU 6) []) (UU 6) = true := by kernel_rfl
theorem ui_6 : treeIsL ⟨k32, 22, 6, true⟩ (callQ Try.prog cxW 1000 97 (paU 6) []) (UU 6) = true := by kernel_rfl
theorem uj_6 : (Nat.ble (bldP (paU 6) 0 0).j 1000 && (UU 6).under (bldP (paU 6) 0 0).n) = true := by kernel_rfl
theorem us_7 : treeIsL ⟨k32, 22, 7, false⟩ (callQ Try.prog cxW 1000 96 (paU 7) []) (UU 7) = true := by kernel_rfl
theorem ui_7 : treeIsL ⟨k32, 22, 7, true⟩ (callQ Try.prog cxW 1000 97 (paU 7) []) (UU 7) = true := by kernel_rfl
theorem uj_7 : (Nat.ble (bldP (paU 7) 0 0).j 1000 && (UU 7).under (bldP (paU 7) 0 0).n) = true := by kernel_rfl
theorem us_8 : treeIsL ⟨k32, 22, 8, false⟩ (callQ Try.prog cxW 1000 96 (paU 8) []) (UU 8) = true := by kernel_rfl
theorem ui_8 : treeIsL ⟨k32, 22, 8, true⟩ (callQ Try.prog cxW 1000 97 (paU 8) []) (UU 8) = true := by kernel_rfl
theorem uj_8 : (Nat.ble (bldP (paU 8) 0 0).j 1000 && (UU 8).under (bldP (paU 8) 0 0).n) = true := by kernel_rfl
theorem uuS_ok {E : Env} (hE : FokU E.fn) (n : Nat) (h1 : 1 ≤ n) (h8 : n ≤ 8) : SumOk Try.prog E 96 (uuS n) := by
  have hels : SumOk Try.prog E 96 (call cxW Try.prog 1000 96) := call_ok (cxW_okF hE.toFok5).1 (cxW_okF hE.toFok5).2 nm mixed 1000 96
  match n, h1, h8 with
  | 1, _, _ => exact sumN_ok (ctx := cxW) (n := 1000) (D := UU 1) (cxW_ok2 hE.toFok5) nm mixed (hE.uu 51 (UU 1) (show (51, UU 1) ∈ DsU from .tail _ (.tail _ (.tail _ (.tail _ (.tail _ (.tail _ (.tail _ (.head _))))))))) uj_1 us_1 hels
  | 2, _, _ => exact sumN_ok (ctx := cxW) (n := 1000) (D := UU 2) (cxW_ok2 hE.toFok5) nm mixed (hE.uu 52 (UU 2) (show (52, UU 2) ∈ DsU from .tail _ (.tail _ (.tail _ (.tail _ (.tail _ (.tail _ (.head _)))))))) uj_2 us_2 hels
  | 3, _, _ => exact sumN_ok (ctx := cxW) (n := 1000) (D := UU 3) (cxW_ok2 hE.toFok5) nm mixed (hE.uu 53 (UU 3) (show (53, UU 3) ∈ DsU from .tail _ (.tail _ (.tail _ (.tail _ (.tail _ (.head _))))))) uj_3 us_3 hels
  | 4, _, _ => exact sumN_ok (ctx := cxW) (n := 1000) (D := UU 4) (cxW_ok2 hE.toFok5) nm mixed (hE.uu 54 (UU 4) (show (54, UU 4) ∈ DsU from .tail _ (.tail _ (.tail _ (.tail _ (.head _)))))) uj_4 us_4 hels
  | 5, _, _ => exact sumN_ok (ctx := cxW) (n := 1000) (D := UU 5) (cxW_ok2 hE.toFok5) nm mixed (hE.uu 55 (UU 5) (show (55, UU 5) ∈ DsU from .tail _ (.tail _ (.tail _ (.head _))))) uj_5 us_5 hels
  | 6, _, _ => exact sumN_ok (ctx := cxW) (n := 1000) (D := UU 6) (cxW_ok2 hE.toFok5) nm mixed (hE.uu 56 (UU 6) (show (56, UU 6) ∈ DsU from .tail _ (.tail _ (.head _)))) uj_6 us_6 hels
  | 7, _, _ => exact sumN_ok (ctx := cxW) (n := 1000) (D := UU 7) (cxW_ok2 hE.toFok5) nm mixed (hE.uu 57 (UU 7) (show (57, UU 7) ∈ DsU from .tail _ (.head _))) uj_7 us_7 hels
  | 8, _, _ => exact sumN_ok (ctx := cxW) (n := 1000) (D := UU 8) (cxW_ok2 hE.toFok5) nm mixed (hE.uu 58 (UU 8) (show (58, UU 8) ∈ DsU from .head _)) uj_8 us_8 hels
theorem uuI_ok {E : Env} (hE : FokU E.fn) (n : Nat) (h1 : 1 ≤ n) (h8 : n ≤ 8) : SumOk Try.prog E 97 (uuI n) := by
  have hels : SumOk Try.prog E 97 (call cxW Try.prog 1000 97) := call_ok (cxW_okF hE.toFok5).1 (cxW_okF hE.toFok5).2 nm mixed 1000 97
  match n, h1, h8 with
  | 1, _, _ => exact sumN_ok (ctx := cxW) (n := 1000) (D := UU 1) (cxW_ok2 hE.toFok5) nm mixed (hE.uu 51 (UU 1) (show (51, UU 1) ∈ DsU from .tail _ (.tail _ (.tail _ (.tail _ (.tail _ (.tail _ (.tail _ (.head _))))))))) uj_1 ui_1 hels
  | 2, _, _ => exact sumN_ok (ctx := cxW) (n := 1000) (D := UU 2) (cxW_ok2 hE.toFok5) nm mixed (hE.uu 52 (UU 2) (show (52, UU 2) ∈ DsU from .tail _ (.tail _ (.tail _ (.tail _ (.tail _ (.tail _ (.head _)))))))) uj_2 ui_2 hels
  | 3, _, _ => exact sumN_ok (ctx := cxW) (n := 1000) (D := UU 3) (cxW_ok2 hE.toFok5) nm mixed (hE.uu 53 (UU 3) (show (53, UU 3) ∈ DsU from .tail _ (.tail _ (.tail _ (.tail _ (.tail _ (.head _))))))) uj_3 ui_3 hels
  | 4, _, _ => exact sumN_ok (ctx := cxW) (n := 1000) (D := UU 4) (cxW_ok2 hE.toFok5) nm mixed (hE.uu 54 (UU 4) (show (54, UU 4) ∈ DsU from .tail _ (.tail _ (.tail _ (.tail _ (.head _)))))) uj_4 ui_4 hels
  | 5, _, _ => exact sumN_ok (ctx := cxW) (n := 1000) (D := UU 5) (cxW_ok2 hE.toFok5) nm mixed (hE.uu 55 (UU 5) (show (55, UU 5) ∈ DsU from .tail _ (.tail _ (.tail _ (.head _))))) uj_5 ui_5 hels
  | 6, _, _ => exact sumN_ok (ctx := cxW) (n := 1000) (D := UU 6) (cxW_ok2 hE.toFok5) nm mixed (hE.uu 56 (UU 6) (show (56, UU 6) ∈ DsU from .tail _ (.tail _ (.head _)))) uj_6 ui_6 hels
  | 7, _, _ => exact sumN_ok (ctx := cxW) (n := 1000) (D := UU 7) (cxW_ok2 hE.toFok5) nm mixed (hE.uu 57 (UU 7) (show (57, UU 7) ∈ DsU from .tail _ (.head _))) uj_7 ui_7 hels
  | 8, _, _ => exact sumN_ok (ctx := cxW) (n := 1000) (D := UU 8) (cxW_ok2 hE.toFok5) nm mixed (hE.uu 58 (UU 8) (show (58, UU 8) ∈ DsU from .head _)) uj_8 ui_8 hels
def dispL (S : Nat → Sum) (els : Sum) : Sum := fun args m pc => match args with
  | .sl j o n :: r => match Nat.ble 1 n, Nat.ble n 8 with
    | true, true => S n (.sl j o n :: r) m pc
    | _, _ => els (.sl j o n :: r) m pc
  | a => els a m pc
theorem dispL_ok {E : Env} {f : Nat} {S : Nat → Sum} {els : Sum} (h : ∀ n, 1 ≤ n → n ≤ 8 → SumOk Try.prog E f (S n)) (k : SumOk Try.prog E f els) : SumOk Try.prog E f (dispL S els) := by
  intro args m pc r hr
  unfold dispL at hr
  split at hr
  · split at hr
    · rename_i h1 h2; exact h _ (Nat.le_of_ble_eq_true h1) (Nat.le_of_ble_eq_true h2) _ m pc r hr
    · exact k _ m pc r hr
  · exact k _ m pc r hr
theorem dispL_pc {E : Env} {S : Nat → Sum} {els : Sum} (h : ∀ n args m pc, PcOk E pc → Pcs E Res.pc (S n args m pc)) (k : ∀ args m pc, PcOk E pc → Pcs E Res.pc (els args m pc)) (args : List SV) (m : Mm) (pc : PC) (hp : PcOk E pc) : Pcs E Res.pc (dispL S els args m pc) := by
  unfold dispL
  split
  · split
    · exact h _ _ m pc hp
    · exact k _ m pc hp
  · exact k _ m pc hp
def cxUg : Ctx := ctxL ((93, orS LeafV.toC (call (ctxL l4) Try.prog 1000 93)) :: (95, orS LeafV.eqC (call (ctxL l4) Try.prog 1000 95)) :: (98, call (ctxL l4) Try.prog 1000 98) :: (96, dispL uuS (call cxW Try.prog 1000 96)) :: (97, dispL uuI (call cxW Try.prog 1000 97)) :: (76, sumI f16) :: (104, sumE f16) :: (101, hdS cxW kF 101) :: (109, hdS cxW kC 109) :: (93, orS LeafV.toC (call (ctxL l2) Try.prog 1000 93)) :: (95, orS LeafV.eqC (call (ctxL l2) Try.prog 1000 95)) :: (165, finC unS) :: (166, finC unI) :: (203, lkS) :: (206, lkI) :: (240, cbS) :: (245, cbI) :: l2)
def cxUf : Ctx := withFxs (withFxs (withFx cxUg (fun g => Nat.beq g 99 || Nat.beq g 100)) 99 (markX kC f16)) 100 (markX kF [k32])
theorem cxUf_okF {E : Env} (hE : FokU E.fn) : CtxOk Try.prog E cxUf ∧ CtxPc E cxUf := by
  have hW := cxW_okF hE.toFok5
  have hg : CtxOk Try.prog E cxUg ∧ CtxPc E cxUg := ctxL_cons (ctxL_cons (ctxL_cons (ctxL_cons (ctxL_cons (cxWg_okF hE.toFok5)
    (dispL_ok (fun n h1 h8 => uuI_ok hE n h1 h8) (call_ok hW.1 hW.2 nm mixed 1000 97)) (dispL_pc (fun n => sumN_pc (call_pc hW.2 1000 97)) (call_pc hW.2 1000 97)))
    (dispL_ok (fun n h1 h8 => uuS_ok hE n h1 h8) (call_ok hW.1 hW.2 nm mixed 1000 96)) (dispL_pc (fun n => sumN_pc (call_pc hW.2 1000 96)) (call_pc hW.2 1000 96)))
    (call_ok (c4 hE.toFok).1 (c4 hE.toFok).2 nm mixed 1000 98) (call_pc (c4 hE.toFok).2 1000 98))
    (orS_ok (LeafV.eqC_ok hE.rows) (call_ok (c4 hE.toFok).1 (c4 hE.toFok).2 nm mixed 1000 95)) (orS_pc LeafV.eqC_pc (call_pc (c4 hE.toFok).2 1000 95)))
    (orS_ok (LeafV.toC_ok hE.rows) (call_ok (c4 hE.toFok).1 (c4 hE.toFok).2 nm mixed 1000 93)) (orS_pc LeafV.toC_pc (call_pc (c4 hE.toFok).2 1000 93))
  exact withMk_ok (withMk_ok (withFx_ok hg _) kC_ok rfl hE.rows ⟨_, Try.func99, by kernel_rfl⟩ markC_walk) kF_ok rfl hE.rows ⟨_, Try.func100, by kernel_rfl⟩ markF_walk
end Go.Proofs.Ytamljpeicecbjaa.Leaf
namespace Go.Proofs.Ytamljpeicecbjaa.LeafQ
open Go.Sx
def cxB : Ctx := Leaf.cxUf
theorem cxB_ok : ∀ E : Env, E.fn = Leaf.FU → CtxOk Try.prog E cxB ∧ CtxPc E cxB := fun E hE => Leaf.cxUf_okF (by rw [hE]; exact Leaf.FokU_FU)
theorem F2_900 : ∀ c, Leaf.FU 900 c = F900 c := Leaf.FokU_FU.rows
end Go.Proofs.Ytamljpeicecbjaa.LeafQ
