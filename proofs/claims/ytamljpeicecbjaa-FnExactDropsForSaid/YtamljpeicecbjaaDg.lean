/- The contracts of the drops for parts. No condition. -/
import Derived.Test.YtamljpeicecbjaaDk1
import Derived.Test.YtamljpeicecbjaaDk4
import Derived.Test.YtamljpeicecbjaaDk5
import Derived.Test.YtamljpeicecbjaaDk6
set_option linter.unusedVariables false
set_option linter.unusedSimpArgs false
set_option maxRecDepth 100000
noncomputable section
namespace Go.Proofs.Ytamljpeicecbjaa.Leaf
open Go.Sx
def DsP : List (Nat × Tm) := (946, PD 6) :: (945, PD 5) :: (944, PD 4) :: (943, PD 3) :: (942, PD 2) :: (941, PD 1) :: Ds
def FP : Nat → Sc → Sc := buildF (baseP 6) DsP
theorem ba {a b : Bool} (h : (a && b) = true) : a = true ∧ b = true := by simpa using h
theorem asc941 : defsAsc Ds 941 = true := by kernel_rfl
theorem ascP : defsAsc DsP 950 = true := defsAsc_cons rfl (ba pu_6).2 (defsAsc_cons rfl (ba pu_5).2 (defsAsc_cons rfl (ba pu_4).2 (defsAsc_cons rfl (ba pu_3).2 (defsAsc_cons rfl (ba pu_2).2 (defsAsc_cons rfl (ba pu_1).2 asc941)))))
structure FokP (F : Nat → Sc → Sc) : Prop extends Fok F where
  pd : ∀ id D, (id, D) ∈ DsP → ∀ c, F id c = D.den ⟨fun i => c.at_ i, F⟩
  lp : ∀ n, n < 6 → ∀ c, F (931 + n) c = loopN (DL (n + 1) plI) (13 + 34 * (n + 1)) (buildF (baseP n) Ds) c
  lo : ∀ n, n < 6 → ∀ k, k < 931 + n → F k = buildF (baseP n) Ds k
theorem FP_low {k : Nat} (h : k < 941) : FP k = buildF (baseP 6) Ds k := by
  unfold FP DsP
  rw [buildF_skip (by omega), buildF_skip (by omega), buildF_skip (by omega), buildF_skip (by omega), buildF_skip (by omega), buildF_skip (by omega)]
theorem FokP_FP : FokP FP where
  defs := fun _ _ h c => buildF_def ascP (.tail _ (.tail _ (.tail _ (.tail _ (.tail _ (.tail _ h)))))) c
  rows := fun c => by
    have h : buildF (baseP 6) Ds 900 = baseP 6 900 := buildF_base (by kernel_rfl)
    rw [FP_low (by omega), h, baseP_lo (n := 0) (m := 6) (by omega) (by omega)]; simp [baseP, F1]
  name := fun c => by
    have h : buildF (baseP 6) Ds 0 = baseP 6 0 := buildF_base (by kernel_rfl)
    rw [FP_low (by omega), h, baseP_lo (n := 0) (m := 6) (by omega) (by omega)]; simp [baseP, F1]
  size := fun c => by
    have h : buildF (baseP 6) Ds 1 = baseP 6 1 := buildF_base (by kernel_rfl)
    rw [FP_low (by omega), h, baseP_lo (n := 0) (m := 6) (by omega) (by omega)]; simp [baseP, F1]
  pd := fun _ _ h c => buildF_def ascP h c
  lp := fun n hn c => by
    have h : buildF (baseP 6) Ds (931 + n) = baseP 6 (931 + n) := by
      match n, hn with
      | 0, _ | 1, _ | 2, _ | 3, _ | 4, _ | 5, _ => exact buildF_base (by kernel_rfl)
    rw [FP_low (by omega), h]
    exact baseP_at hn c
  lo := fun n hn k hk => by
    rw [FP_low (by omega)]
    exact buildF_eqP (B := 931 + n) (fun k hk => baseP_lo (by omega) hk) asc (by omega) k hk
section
variable {E : Env}
theorem DLI (hE : FokP E.fn) {n : Nat} (h : n < 6) (hc : (DL (n + 1) plI).closed (13 + 34 * (n + 1)) = true) : LoopLaw (DL (n + 1) plI) E :=
  DL_law (F := buildF (baseP n) Ds) rfl hc (fun c => by rw [show 930 + (n + 1) = 931 + n by omega]; exact hE.lp n h c) (fun k hk => hE.lo n h k (by omega))
theorem DLS (hE : FokP E.fn) {n : Nat} (h : n < 6) (hc : (DL (n + 1) plI).closed (13 + 34 * (n + 1)) = true) : LoopLaw (DL (n + 1) plS) E := fun v hv hp => ⟨DL_rounds (DLI hE h hc v hv hp).1, (DLI hE h hc v hv hp).2⟩
theorem cxI_ok (hE : FokP E.fn) {n : Nat} (h : n < 6) (hc : (DL (n + 1) plI).closed (13 + 34 * (n + 1)) = true) : ∀ E' : Env, E'.fn = E.fn → CtxOk Try.prog E' (cxI (n + 1)) ∧ CtxPc E' (cxI (n + 1)) := fun E' h' =>
  withLoops_ok (fun E'' h'' => withAp_ok (cxP_okF (by rw [h'', h']; exact hE.toFok))) nm mixed fun k S hS => by
    simp only [List.mem_cons, Prod.mk.injEq, List.not_mem_nil, or_false] at hS
    obtain ⟨_, rfl⟩ := hS
    exact DLI (by rw [h']; exact hE) h hc
theorem cxS_ok (hE : FokP E.fn) {n : Nat} (h : n < 6) (hc : (DL (n + 1) plI).closed (13 + 34 * (n + 1)) = true) : ∀ E' : Env, E'.fn = E.fn → CtxOk Try.prog E' (cxS (n + 1)) ∧ CtxPc E' (cxS (n + 1)) := fun E' h' =>
  withLoops_ok (fun E'' h'' => withAp_ok (cxP_okF (by rw [h'', h']; exact hE.toFok))) nm mixed fun k S hS => by
    simp only [List.mem_cons, Prod.mk.injEq, List.not_mem_nil, or_false] at hS
    obtain ⟨_, rfl⟩ := hS
    exact DLS (by rw [h']; exact hE) h hc
def elD (f : Nat) : Sum := call cxP Try.prog 1000 f
theorem elD_ok (hE : FokP E.fn) (f : Nat) : SumOk Try.prog E f (elD f) := call_ok (cxP_okF hE.toFok).1 (cxP_okF hE.toFok).2 nm mixed 1000 f
theorem elD_pc (hE : FokP E.fn) (f : Nat) : ∀ args m pc, PcOk E pc → Pcs E Res.pc (elD f args m pc) := call_pc (cxP_okF hE.toFok).2 1000 f
/-- One part after the other is asked whether it is above nought. -/
def chn (f n : Nat) : Nat → Sum
  | 0 => elD f
  | j + 1 => sumR (paD n) (asD n j) rpD 7 (940 + n) (chn f n j)
theorem chn_pc (hE : FokP E.fn) (f n : Nat) : ∀ j, ∀ args m pc, PcOk E pc → Pcs E Res.pc (chn f n j args m pc)
  | 0 => elD_pc hE f
  | j + 1 => fun args m pc hp => sumQ_pc (chn_pc hE f n j) args m pc hp
theorem ch88_1 (hE : FokP E.fn) : SumOk Try.prog E 88 (chn 88 1 1) := by
  have h0 : SumOk Try.prog E 88 (chn 88 1 0) := elD_ok hE 88
  have h1 : SumOk Try.prog E 88 (chn 88 1 1) := sumR_ok (ctx := cxI 1) (n := 1000) (D := PD 1) (pcx := pcD 1 0) (cxI_ok hE (n := 0) (by decide) cl_1) nm mixed (hE.pd 941 (PD 1) (show (941, PD 1) ∈ DsP from .tail _ (.tail _ (.tail _ (.tail _ (.tail _ (.head _))))))) pj_1_0 (by rw [(ba pu_1).1]; rfl) (fun E' _ h => pcD_ok E' h) (ba pk_1_0).1 h0
  exact h1
theorem ch87_1 (hE : FokP E.fn) : SumOk Try.prog E 87 (chn 87 1 1) := by
  have h0 : SumOk Try.prog E 87 (chn 87 1 0) := elD_ok hE 87
  have h1 : SumOk Try.prog E 87 (chn 87 1 1) := sumR_ok (ctx := cxS 1) (n := 1000) (D := PD 1) (pcx := pcD 1 0) (cxS_ok hE (n := 0) (by decide) cl_1) nm mixed (hE.pd 941 (PD 1) (show (941, PD 1) ∈ DsP from .tail _ (.tail _ (.tail _ (.tail _ (.tail _ (.head _))))))) pj_1_0 (by rw [(ba pu_1).1]; rfl) (fun E' _ h => pcD_ok E' h) (ba pk_1_0).2 h0
  exact h1
theorem ch88_2 (hE : FokP E.fn) : SumOk Try.prog E 88 (chn 88 2 2) := by
  have h0 : SumOk Try.prog E 88 (chn 88 2 0) := elD_ok hE 88
  have h1 : SumOk Try.prog E 88 (chn 88 2 1) := sumR_ok (ctx := cxI 2) (n := 1000) (D := PD 2) (pcx := pcD 2 0) (cxI_ok hE (n := 1) (by decide) cl_2) nm mixed (hE.pd 942 (PD 2) (show (942, PD 2) ∈ DsP from .tail _ (.tail _ (.tail _ (.tail _ (.head _)))))) pj_2_0 (by rw [(ba pu_2).1]; rfl) (fun E' _ h => pcD_ok E' h) (ba pk_2_0).1 h0
  have h2 : SumOk Try.prog E 88 (chn 88 2 2) := sumR_ok (ctx := cxI 2) (n := 1000) (D := PD 2) (pcx := pcD 2 1) (cxI_ok hE (n := 1) (by decide) cl_2) nm mixed (hE.pd 942 (PD 2) (show (942, PD 2) ∈ DsP from .tail _ (.tail _ (.tail _ (.tail _ (.head _)))))) pj_2_1 (by rw [(ba pu_2).1]; rfl) (fun E' _ h => pcD_ok E' h) (ba pk_2_1).1 h1
  exact h2
theorem ch87_2 (hE : FokP E.fn) : SumOk Try.prog E 87 (chn 87 2 2) := by
  have h0 : SumOk Try.prog E 87 (chn 87 2 0) := elD_ok hE 87
  have h1 : SumOk Try.prog E 87 (chn 87 2 1) := sumR_ok (ctx := cxS 2) (n := 1000) (D := PD 2) (pcx := pcD 2 0) (cxS_ok hE (n := 1) (by decide) cl_2) nm mixed (hE.pd 942 (PD 2) (show (942, PD 2) ∈ DsP from .tail _ (.tail _ (.tail _ (.tail _ (.head _)))))) pj_2_0 (by rw [(ba pu_2).1]; rfl) (fun E' _ h => pcD_ok E' h) (ba pk_2_0).2 h0
  have h2 : SumOk Try.prog E 87 (chn 87 2 2) := sumR_ok (ctx := cxS 2) (n := 1000) (D := PD 2) (pcx := pcD 2 1) (cxS_ok hE (n := 1) (by decide) cl_2) nm mixed (hE.pd 942 (PD 2) (show (942, PD 2) ∈ DsP from .tail _ (.tail _ (.tail _ (.tail _ (.head _)))))) pj_2_1 (by rw [(ba pu_2).1]; rfl) (fun E' _ h => pcD_ok E' h) (ba pk_2_1).2 h1
  exact h2
theorem ch88_3 (hE : FokP E.fn) : SumOk Try.prog E 88 (chn 88 3 3) := by
  have h0 : SumOk Try.prog E 88 (chn 88 3 0) := elD_ok hE 88
  have h1 : SumOk Try.prog E 88 (chn 88 3 1) := sumR_ok (ctx := cxI 3) (n := 1000) (D := PD 3) (pcx := pcD 3 0) (cxI_ok hE (n := 2) (by decide) cl_3) nm mixed (hE.pd 943 (PD 3) (show (943, PD 3) ∈ DsP from .tail _ (.tail _ (.tail _ (.head _))))) pj_3_0 (by rw [(ba pu_3).1]; rfl) (fun E' _ h => pcD_ok E' h) (ba pk_3_0).1 h0
  have h2 : SumOk Try.prog E 88 (chn 88 3 2) := sumR_ok (ctx := cxI 3) (n := 1000) (D := PD 3) (pcx := pcD 3 1) (cxI_ok hE (n := 2) (by decide) cl_3) nm mixed (hE.pd 943 (PD 3) (show (943, PD 3) ∈ DsP from .tail _ (.tail _ (.tail _ (.head _))))) pj_3_1 (by rw [(ba pu_3).1]; rfl) (fun E' _ h => pcD_ok E' h) (ba pk_3_1).1 h1
  have h3 : SumOk Try.prog E 88 (chn 88 3 3) := sumR_ok (ctx := cxI 3) (n := 1000) (D := PD 3) (pcx := pcD 3 2) (cxI_ok hE (n := 2) (by decide) cl_3) nm mixed (hE.pd 943 (PD 3) (show (943, PD 3) ∈ DsP from .tail _ (.tail _ (.tail _ (.head _))))) pj_3_2 (by rw [(ba pu_3).1]; rfl) (fun E' _ h => pcD_ok E' h) (ba pk_3_2).1 h2
  exact h3
theorem ch87_3 (hE : FokP E.fn) : SumOk Try.prog E 87 (chn 87 3 3) := by
  have h0 : SumOk Try.prog E 87 (chn 87 3 0) := elD_ok hE 87
  have h1 : SumOk Try.prog E 87 (chn 87 3 1) := sumR_ok (ctx := cxS 3) (n := 1000) (D := PD 3) (pcx := pcD 3 0) (cxS_ok hE (n := 2) (by decide) cl_3) nm mixed (hE.pd 943 (PD 3) (show (943, PD 3) ∈ DsP from .tail _ (.tail _ (.tail _ (.head _))))) pj_3_0 (by rw [(ba pu_3).1]; rfl) (fun E' _ h => pcD_ok E' h) (ba pk_3_0).2 h0
  have h2 : SumOk Try.prog E 87 (chn 87 3 2) := sumR_ok (ctx := cxS 3) (n := 1000) (D := PD 3) (pcx := pcD 3 1) (cxS_ok hE (n := 2) (by decide) cl_3) nm mixed (hE.pd 943 (PD 3) (show (943, PD 3) ∈ DsP from .tail _ (.tail _ (.tail _ (.head _))))) pj_3_1 (by rw [(ba pu_3).1]; rfl) (fun E' _ h => pcD_ok E' h) (ba pk_3_1).2 h1
  have h3 : SumOk Try.prog E 87 (chn 87 3 3) := sumR_ok (ctx := cxS 3) (n := 1000) (D := PD 3) (pcx := pcD 3 2) (cxS_ok hE (n := 2) (by decide) cl_3) nm mixed (hE.pd 943 (PD 3) (show (943, PD 3) ∈ DsP from .tail _ (.tail _ (.tail _ (.head _))))) pj_3_2 (by rw [(ba pu_3).1]; rfl) (fun E' _ h => pcD_ok E' h) (ba pk_3_2).2 h2
  exact h3
theorem ch88_4 (hE : FokP E.fn) : SumOk Try.prog E 88 (chn 88 4 4) := by
  have h0 : SumOk Try.prog E 88 (chn 88 4 0) := elD_ok hE 88
  have h1 : SumOk Try.prog E 88 (chn 88 4 1) := sumR_ok (ctx := cxI 4) (n := 1000) (D := PD 4) (pcx := pcD 4 0) (cxI_ok hE (n := 3) (by decide) cl_4) nm mixed (hE.pd 944 (PD 4) (show (944, PD 4) ∈ DsP from .tail _ (.tail _ (.head _)))) pj_4_0 (by rw [(ba pu_4).1]; rfl) (fun E' _ h => pcD_ok E' h) (ba pk_4_0).1 h0
  have h2 : SumOk Try.prog E 88 (chn 88 4 2) := sumR_ok (ctx := cxI 4) (n := 1000) (D := PD 4) (pcx := pcD 4 1) (cxI_ok hE (n := 3) (by decide) cl_4) nm mixed (hE.pd 944 (PD 4) (show (944, PD 4) ∈ DsP from .tail _ (.tail _ (.head _)))) pj_4_1 (by rw [(ba pu_4).1]; rfl) (fun E' _ h => pcD_ok E' h) (ba pk_4_1).1 h1
  have h3 : SumOk Try.prog E 88 (chn 88 4 3) := sumR_ok (ctx := cxI 4) (n := 1000) (D := PD 4) (pcx := pcD 4 2) (cxI_ok hE (n := 3) (by decide) cl_4) nm mixed (hE.pd 944 (PD 4) (show (944, PD 4) ∈ DsP from .tail _ (.tail _ (.head _)))) pj_4_2 (by rw [(ba pu_4).1]; rfl) (fun E' _ h => pcD_ok E' h) (ba pk_4_2).1 h2
  have h4 : SumOk Try.prog E 88 (chn 88 4 4) := sumR_ok (ctx := cxI 4) (n := 1000) (D := PD 4) (pcx := pcD 4 3) (cxI_ok hE (n := 3) (by decide) cl_4) nm mixed (hE.pd 944 (PD 4) (show (944, PD 4) ∈ DsP from .tail _ (.tail _ (.head _)))) pj_4_3 (by rw [(ba pu_4).1]; rfl) (fun E' _ h => pcD_ok E' h) (ba pk_4_3).1 h3
  exact h4
theorem ch87_4 (hE : FokP E.fn) : SumOk Try.prog E 87 (chn 87 4 4) := by
  have h0 : SumOk Try.prog E 87 (chn 87 4 0) := elD_ok hE 87
  have h1 : SumOk Try.prog E 87 (chn 87 4 1) := sumR_ok (ctx := cxS 4) (n := 1000) (D := PD 4) (pcx := pcD 4 0) (cxS_ok hE (n := 3) (by decide) cl_4) nm mixed (hE.pd 944 (PD 4) (show (944, PD 4) ∈ DsP from .tail _ (.tail _ (.head _)))) pj_4_0 (by rw [(ba pu_4).1]; rfl) (fun E' _ h => pcD_ok E' h) (ba pk_4_0).2 h0
  have h2 : SumOk Try.prog E 87 (chn 87 4 2) := sumR_ok (ctx := cxS 4) (n := 1000) (D := PD 4) (pcx := pcD 4 1) (cxS_ok hE (n := 3) (by decide) cl_4) nm mixed (hE.pd 944 (PD 4) (show (944, PD 4) ∈ DsP from .tail _ (.tail _ (.head _)))) pj_4_1 (by rw [(ba pu_4).1]; rfl) (fun E' _ h => pcD_ok E' h) (ba pk_4_1).2 h1
  have h3 : SumOk Try.prog E 87 (chn 87 4 3) := sumR_ok (ctx := cxS 4) (n := 1000) (D := PD 4) (pcx := pcD 4 2) (cxS_ok hE (n := 3) (by decide) cl_4) nm mixed (hE.pd 944 (PD 4) (show (944, PD 4) ∈ DsP from .tail _ (.tail _ (.head _)))) pj_4_2 (by rw [(ba pu_4).1]; rfl) (fun E' _ h => pcD_ok E' h) (ba pk_4_2).2 h2
  have h4 : SumOk Try.prog E 87 (chn 87 4 4) := sumR_ok (ctx := cxS 4) (n := 1000) (D := PD 4) (pcx := pcD 4 3) (cxS_ok hE (n := 3) (by decide) cl_4) nm mixed (hE.pd 944 (PD 4) (show (944, PD 4) ∈ DsP from .tail _ (.tail _ (.head _)))) pj_4_3 (by rw [(ba pu_4).1]; rfl) (fun E' _ h => pcD_ok E' h) (ba pk_4_3).2 h3
  exact h4
theorem ch88_5 (hE : FokP E.fn) : SumOk Try.prog E 88 (chn 88 5 5) := by
  have h0 : SumOk Try.prog E 88 (chn 88 5 0) := elD_ok hE 88
  have h1 : SumOk Try.prog E 88 (chn 88 5 1) := sumR_ok (ctx := cxI 5) (n := 1000) (D := PD 5) (pcx := pcD 5 0) (cxI_ok hE (n := 4) (by decide) cl_5) nm mixed (hE.pd 945 (PD 5) (show (945, PD 5) ∈ DsP from .tail _ (.head _))) pj_5_0 (by rw [(ba pu_5).1]; rfl) (fun E' _ h => pcD_ok E' h) (ba pk_5_0).1 h0
  have h2 : SumOk Try.prog E 88 (chn 88 5 2) := sumR_ok (ctx := cxI 5) (n := 1000) (D := PD 5) (pcx := pcD 5 1) (cxI_ok hE (n := 4) (by decide) cl_5) nm mixed (hE.pd 945 (PD 5) (show (945, PD 5) ∈ DsP from .tail _ (.head _))) pj_5_1 (by rw [(ba pu_5).1]; rfl) (fun E' _ h => pcD_ok E' h) (ba pk_5_1).1 h1
  have h3 : SumOk Try.prog E 88 (chn 88 5 3) := sumR_ok (ctx := cxI 5) (n := 1000) (D := PD 5) (pcx := pcD 5 2) (cxI_ok hE (n := 4) (by decide) cl_5) nm mixed (hE.pd 945 (PD 5) (show (945, PD 5) ∈ DsP from .tail _ (.head _))) pj_5_2 (by rw [(ba pu_5).1]; rfl) (fun E' _ h => pcD_ok E' h) (ba pk_5_2).1 h2
  have h4 : SumOk Try.prog E 88 (chn 88 5 4) := sumR_ok (ctx := cxI 5) (n := 1000) (D := PD 5) (pcx := pcD 5 3) (cxI_ok hE (n := 4) (by decide) cl_5) nm mixed (hE.pd 945 (PD 5) (show (945, PD 5) ∈ DsP from .tail _ (.head _))) pj_5_3 (by rw [(ba pu_5).1]; rfl) (fun E' _ h => pcD_ok E' h) (ba pk_5_3).1 h3
  have h5 : SumOk Try.prog E 88 (chn 88 5 5) := sumR_ok (ctx := cxI 5) (n := 1000) (D := PD 5) (pcx := pcD 5 4) (cxI_ok hE (n := 4) (by decide) cl_5) nm mixed (hE.pd 945 (PD 5) (show (945, PD 5) ∈ DsP from .tail _ (.head _))) pj_5_4 (by rw [(ba pu_5).1]; rfl) (fun E' _ h => pcD_ok E' h) (ba pk_5_4).1 h4
  exact h5
theorem ch87_5 (hE : FokP E.fn) : SumOk Try.prog E 87 (chn 87 5 5) := by
  have h0 : SumOk Try.prog E 87 (chn 87 5 0) := elD_ok hE 87
  have h1 : SumOk Try.prog E 87 (chn 87 5 1) := sumR_ok (ctx := cxS 5) (n := 1000) (D := PD 5) (pcx := pcD 5 0) (cxS_ok hE (n := 4) (by decide) cl_5) nm mixed (hE.pd 945 (PD 5) (show (945, PD 5) ∈ DsP from .tail _ (.head _))) pj_5_0 (by rw [(ba pu_5).1]; rfl) (fun E' _ h => pcD_ok E' h) (ba pk_5_0).2 h0
  have h2 : SumOk Try.prog E 87 (chn 87 5 2) := sumR_ok (ctx := cxS 5) (n := 1000) (D := PD 5) (pcx := pcD 5 1) (cxS_ok hE (n := 4) (by decide) cl_5) nm mixed (hE.pd 945 (PD 5) (show (945, PD 5) ∈ DsP from .tail _ (.head _))) pj_5_1 (by rw [(ba pu_5).1]; rfl) (fun E' _ h => pcD_ok E' h) (ba pk_5_1).2 h1
  have h3 : SumOk Try.prog E 87 (chn 87 5 3) := sumR_ok (ctx := cxS 5) (n := 1000) (D := PD 5) (pcx := pcD 5 2) (cxS_ok hE (n := 4) (by decide) cl_5) nm mixed (hE.pd 945 (PD 5) (show (945, PD 5) ∈ DsP from .tail _ (.head _))) pj_5_2 (by rw [(ba pu_5).1]; rfl) (fun E' _ h => pcD_ok E' h) (ba pk_5_2).2 h2
  have h4 : SumOk Try.prog E 87 (chn 87 5 4) := sumR_ok (ctx := cxS 5) (n := 1000) (D := PD 5) (pcx := pcD 5 3) (cxS_ok hE (n := 4) (by decide) cl_5) nm mixed (hE.pd 945 (PD 5) (show (945, PD 5) ∈ DsP from .tail _ (.head _))) pj_5_3 (by rw [(ba pu_5).1]; rfl) (fun E' _ h => pcD_ok E' h) (ba pk_5_3).2 h3
  have h5 : SumOk Try.prog E 87 (chn 87 5 5) := sumR_ok (ctx := cxS 5) (n := 1000) (D := PD 5) (pcx := pcD 5 4) (cxS_ok hE (n := 4) (by decide) cl_5) nm mixed (hE.pd 945 (PD 5) (show (945, PD 5) ∈ DsP from .tail _ (.head _))) pj_5_4 (by rw [(ba pu_5).1]; rfl) (fun E' _ h => pcD_ok E' h) (ba pk_5_4).2 h4
  exact h5
theorem ch88_6 (hE : FokP E.fn) : SumOk Try.prog E 88 (chn 88 6 6) := by
  have h0 : SumOk Try.prog E 88 (chn 88 6 0) := elD_ok hE 88
  have h1 : SumOk Try.prog E 88 (chn 88 6 1) := sumR_ok (ctx := cxI 6) (n := 1000) (D := PD 6) (pcx := pcD 6 0) (cxI_ok hE (n := 5) (by decide) cl_6) nm mixed (hE.pd 946 (PD 6) (show (946, PD 6) ∈ DsP from .head _)) pj_6_0 (by rw [(ba pu_6).1]; rfl) (fun E' _ h => pcD_ok E' h) (ba pk_6_0).1 h0
  have h2 : SumOk Try.prog E 88 (chn 88 6 2) := sumR_ok (ctx := cxI 6) (n := 1000) (D := PD 6) (pcx := pcD 6 1) (cxI_ok hE (n := 5) (by decide) cl_6) nm mixed (hE.pd 946 (PD 6) (show (946, PD 6) ∈ DsP from .head _)) pj_6_1 (by rw [(ba pu_6).1]; rfl) (fun E' _ h => pcD_ok E' h) (ba pk_6_1).1 h1
  have h3 : SumOk Try.prog E 88 (chn 88 6 3) := sumR_ok (ctx := cxI 6) (n := 1000) (D := PD 6) (pcx := pcD 6 2) (cxI_ok hE (n := 5) (by decide) cl_6) nm mixed (hE.pd 946 (PD 6) (show (946, PD 6) ∈ DsP from .head _)) pj_6_2 (by rw [(ba pu_6).1]; rfl) (fun E' _ h => pcD_ok E' h) (ba pk_6_2).1 h2
  have h4 : SumOk Try.prog E 88 (chn 88 6 4) := sumR_ok (ctx := cxI 6) (n := 1000) (D := PD 6) (pcx := pcD 6 3) (cxI_ok hE (n := 5) (by decide) cl_6) nm mixed (hE.pd 946 (PD 6) (show (946, PD 6) ∈ DsP from .head _)) pj_6_3 (by rw [(ba pu_6).1]; rfl) (fun E' _ h => pcD_ok E' h) (ba pk_6_3).1 h3
  have h5 : SumOk Try.prog E 88 (chn 88 6 5) := sumR_ok (ctx := cxI 6) (n := 1000) (D := PD 6) (pcx := pcD 6 4) (cxI_ok hE (n := 5) (by decide) cl_6) nm mixed (hE.pd 946 (PD 6) (show (946, PD 6) ∈ DsP from .head _)) pj_6_4 (by rw [(ba pu_6).1]; rfl) (fun E' _ h => pcD_ok E' h) (ba pk_6_4).1 h4
  have h6 : SumOk Try.prog E 88 (chn 88 6 6) := sumR_ok (ctx := cxI 6) (n := 1000) (D := PD 6) (pcx := pcD 6 5) (cxI_ok hE (n := 5) (by decide) cl_6) nm mixed (hE.pd 946 (PD 6) (show (946, PD 6) ∈ DsP from .head _)) pj_6_5 (by rw [(ba pu_6).1]; rfl) (fun E' _ h => pcD_ok E' h) (ba pk_6_5).1 h5
  exact h6
theorem ch87_6 (hE : FokP E.fn) : SumOk Try.prog E 87 (chn 87 6 6) := by
  have h0 : SumOk Try.prog E 87 (chn 87 6 0) := elD_ok hE 87
  have h1 : SumOk Try.prog E 87 (chn 87 6 1) := sumR_ok (ctx := cxS 6) (n := 1000) (D := PD 6) (pcx := pcD 6 0) (cxS_ok hE (n := 5) (by decide) cl_6) nm mixed (hE.pd 946 (PD 6) (show (946, PD 6) ∈ DsP from .head _)) pj_6_0 (by rw [(ba pu_6).1]; rfl) (fun E' _ h => pcD_ok E' h) (ba pk_6_0).2 h0
  have h2 : SumOk Try.prog E 87 (chn 87 6 2) := sumR_ok (ctx := cxS 6) (n := 1000) (D := PD 6) (pcx := pcD 6 1) (cxS_ok hE (n := 5) (by decide) cl_6) nm mixed (hE.pd 946 (PD 6) (show (946, PD 6) ∈ DsP from .head _)) pj_6_1 (by rw [(ba pu_6).1]; rfl) (fun E' _ h => pcD_ok E' h) (ba pk_6_1).2 h1
  have h3 : SumOk Try.prog E 87 (chn 87 6 3) := sumR_ok (ctx := cxS 6) (n := 1000) (D := PD 6) (pcx := pcD 6 2) (cxS_ok hE (n := 5) (by decide) cl_6) nm mixed (hE.pd 946 (PD 6) (show (946, PD 6) ∈ DsP from .head _)) pj_6_2 (by rw [(ba pu_6).1]; rfl) (fun E' _ h => pcD_ok E' h) (ba pk_6_2).2 h2
  have h4 : SumOk Try.prog E 87 (chn 87 6 4) := sumR_ok (ctx := cxS 6) (n := 1000) (D := PD 6) (pcx := pcD 6 3) (cxS_ok hE (n := 5) (by decide) cl_6) nm mixed (hE.pd 946 (PD 6) (show (946, PD 6) ∈ DsP from .head _)) pj_6_3 (by rw [(ba pu_6).1]; rfl) (fun E' _ h => pcD_ok E' h) (ba pk_6_3).2 h3
  have h5 : SumOk Try.prog E 87 (chn 87 6 5) := sumR_ok (ctx := cxS 6) (n := 1000) (D := PD 6) (pcx := pcD 6 4) (cxS_ok hE (n := 5) (by decide) cl_6) nm mixed (hE.pd 946 (PD 6) (show (946, PD 6) ∈ DsP from .head _)) pj_6_4 (by rw [(ba pu_6).1]; rfl) (fun E' _ h => pcD_ok E' h) (ba pk_6_4).2 h4
  have h6 : SumOk Try.prog E 87 (chn 87 6 6) := sumR_ok (ctx := cxS 6) (n := 1000) (D := PD 6) (pcx := pcD 6 5) (cxS_ok hE (n := 5) (by decide) cl_6) nm mixed (hE.pd 946 (PD 6) (show (946, PD 6) ∈ DsP from .head _)) pj_6_5 (by rw [(ba pu_6).1]; rfl) (fun E' _ h => pcD_ok E' h) (ba pk_6_5).2 h5
  exact h6
theorem ch88 (hE : FokP E.fn) (n : Nat) (h1 : 1 ≤ n) (h6 : n ≤ 6) : SumOk Try.prog E 88 (chn 88 n n) := by
  match n, h1, h6 with
  | 1, _, _ => exact ch88_1 hE
  | 2, _, _ => exact ch88_2 hE
  | 3, _, _ => exact ch88_3 hE
  | 4, _, _ => exact ch88_4 hE
  | 5, _, _ => exact ch88_5 hE
  | 6, _, _ => exact ch88_6 hE
theorem ch87 (hE : FokP E.fn) (n : Nat) (h1 : 1 ≤ n) (h6 : n ≤ 6) : SumOk Try.prog E 87 (chn 87 n n) := by
  match n, h1, h6 with
  | 1, _, _ => exact ch87_1 hE
  | 2, _, _ => exact ch87_2 hE
  | 3, _, _ => exact ch87_3 hE
  | 4, _, _ => exact ch87_4 hE
  | 5, _, _ => exact ch87_5 hE
  | 6, _, _ => exact ch87_6 hE
def dispP (fits : List SV → Mem → Option Nat) (S : Nat → Sum) (els : Sum) : Sum := fun args m pc => match fits args m.mem with
  | some n => S n args m pc
  | none => els args m pc
theorem dispP_ok {f : Nat} {fits : List SV → Mem → Option Nat} {S : Nat → Sum} {els : Sum} (h : ∀ args mem n, fits args mem = some n → SumOk Try.prog E f (S n)) (k : SumOk Try.prog E f els) : SumOk Try.prog E f (dispP fits S els) := by
  intro args m pc r hr
  unfold dispP at hr
  split at hr
  · rename_i n hn; exact h _ _ n hn args m pc r hr
  · exact k args m pc r hr
theorem dispP_pc {fits : List SV → Mem → Option Nat} {S : Nat → Sum} {els : Sum} (h : ∀ n args m pc, PcOk E pc → Pcs E Res.pc (S n args m pc)) (k : ∀ args m pc, PcOk E pc → Pcs E Res.pc (els args m pc)) (args : List SV) (m : Mm) (pc : PC) (hp : PcOk E pc) : Pcs E Res.pc (dispP fits S els args m pc) := by
  unfold dispP
  split
  · exact h _ args m pc hp
  · exact k args m pc hp
def shArg3 : List SV → Mem → Option Nat
  | s :: _ :: _, mem => shArg [s] mem
  | _, _ => none
theorem shArg3_ok {args : List SV} {mem : Mem} {k : Nat} (h : shArg3 args mem = some k) : 1 ≤ k ∧ k ≤ 6 := by
  unfold shArg3 at h
  split at h
  · exact shArg_ok h
  · cases h
def cxDp : Ctx := ctxL ((88, dispP shArg3 (fun n => chn 88 n n) (elD 88)) :: (87, dispP shArg3 (fun n => chn 87 n n) (elD 87)) :: (171, mulX) :: (170, sumX) :: (169, floorX) :: (139, Go.Sx.sumD [.sc i64, .sc i64] i64 Dmin) :: orL (ctxL l3) Try.prog 1000 l5)
theorem cxDp_okF (hE : FokP E.fn) : CtxOk Try.prog E cxDp ∧ CtxPc E cxDp :=
  ctxL_cons (ctxL_cons (cxP_okF hE.toFok)
    (dispP_ok (fun _ _ n hn => ch87 hE n (shArg3_ok hn).1 (shArg3_ok hn).2) (elD_ok hE 87)) (dispP_pc (fun n => chn_pc hE 87 n n) (elD_pc hE 87)))
    (dispP_ok (fun _ _ n hn => ch88 hE n (shArg3_ok hn).1 (shArg3_ok hn).2) (elD_ok hE 88)) (dispP_pc (fun n => chn_pc hE 88 n n) (elD_pc hE 88))
end
end Go.Proofs.Ytamljpeicecbjaa.Leaf
namespace Go.Proofs.Ytamljpeicecbjaa.LeafDp
open Go.Sx
def cxB : Ctx := Leaf.cxDp
theorem cxB_ok : ∀ E : Env, E.fn = Leaf.FP → CtxOk Try.prog E cxB ∧ CtxPc E cxB := fun E hE => Leaf.cxDp_okF (by rw [hE]; exact Leaf.FokP_FP)
theorem F2_900 : ∀ c, Leaf.FP 900 c = F900 c := Leaf.FokP_FP.rows
end Go.Proofs.Ytamljpeicecbjaa.LeafDp
